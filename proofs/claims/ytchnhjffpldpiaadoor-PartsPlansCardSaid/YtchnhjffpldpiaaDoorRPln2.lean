/- The reference's CheckPlan and plans. -/
import Derived.Test.YtchnhjffpldpiaaDoorRPln
namespace Go.Proofs.YtchnhjffpldpiaaDoor
open Go Go.RowKit

variable {spares flights : List Int} {a a2 : Option Addr} {n c n2 c2 : Nat} {w : World} {B : Nat}

theorem any_get {α : Type} [Inhabited α] {l : List α} {p : α → Bool} (k : Nat) (hk : k < l.length) (h : p l[k]! = true) : l.any p = true :=
  List.any_eq_true.2 ⟨l[k]!, by rw [getElem!_pos l k hk]; exact List.getElem_mem _, h⟩
theorem any_none {α : Type} [Inhabited α] {l : List α} {p : α → Bool} (h : ∀ k, k < l.length → p l[k]! = false) : l.any p = false := by
  rw [Bool.eq_false_iff]
  intro hx
  obtain ⟨x, hx, hb⟩ := List.any_eq_true.1 hx
  obtain ⟨k, hk, rfl⟩ := List.getElem_of_mem hx
  have := h k hk
  rw [getElem!_pos l k hk, hb] at this
  cases this

set_option maxRecDepth 100000 in
set_option maxHeartbeats 1000000 in
theorem checkPlan_any (hS : Rd encInt 1 w B a n spares) (hF : Rd encInt 1 w B a2 n2 flights) (er : Int) (he : planE spares flights = er) :
    Calls Tryd.prog 47 #[.slice a n c, .slice a2 n2 c2] w fun e w' => e = .returned (.int .i64 er) ∧ w = w' := by
  obtain ⟨r, hr⟩ : ∃ r, inB (n : Int) 1 6 = r := ⟨_, rfl⟩
  have W1 := Lib.hid (refWithin_q (n : Int) 1 6 r hr)
  have hl := hS.len
  have hl2 := hF.len
  unfold planE at he
  rw [← hl, ← hl2, hr] at he
  cases r with
  | false =>
    rw [if_pos (show (!false) = true from rfl)] at he
    subst he
    clear hS hF hl hl2 hr
    go_enter Tryd.func47, Tryd.ntmps47
    go_wp2_with (go_at_call 77; refine (W1.out _).mono ?_; rintro e w' ⟨rfl, rfl⟩)
    go_ret
    exact ⟨rfl, rfl⟩
  | true =>
    rw [if_neg (by decide)] at he
    by_cases h8 : 8 < n2
    · rw [if_pos h8] at he
      subst he
      have h8z : (8 : Int) < (n2 : Int) := by omega
      clear hS hF hl hl2 hr h8
      go_enter Tryd.func47, Tryd.ntmps47
      go_wp2_with (go_at_call 77; refine (W1.out _).mono ?_; rintro e w' ⟨rfl, rfl⟩)
      go_ret
      exact ⟨rfl, rfl⟩
    · rw [if_neg h8] at he
      have h8z : ¬ (8 : Int) < (n2 : Int) := by omega
      have hn6 : n ≤ 6 := by rw [inB_iff] at hr; omega
      have E1 : Hid (∀ k, k < n → badSpare spares[k]! = true → er = 1) := fun k hk hb => by
        rw [← he, if_pos (any_get k (by omega) hb)]
      have E2 : Hid (∀ k, k < n2 → badFlight flights[k]! = true → er = 1) := fun k hk hb => by
        rw [← he]
        split
        · rfl
        · rw [if_pos (any_get k (by omega) hb)]
      have E0 : Hid ((∀ k, k < n → badSpare spares[k]! = false) → (∀ k, k < n2 → badFlight flights[k]! = false) → er = 0) := fun h1 h2 => by
        rw [← he, any_none (fun k hk => h1 k (by omega)), any_none (fun k hk => h2 k (by omega))]
        rfl
      have HS := Lib.hid hS
      have HF := Lib.hid hF
      clear hS hF hl hl2 hr h8 he
      go_enter Tryd.func47, Tryd.ntmps47
      go_wp2_with (go_at_call 77; refine (W1.out _).mono ?_; rintro e w' ⟨rfl, rfl⟩)
      go_loopg [5] n (fun gg s5 wr => ∃ k : Nat, k ≤ n ∧ n - k ≤ gg ∧ s5 = .int .i64 k ∧ Aside (∀ j, j < k → badSpare spares[j]! = false) ∧ w = wr)
      case atStart => exact ⟨0, Nat.zero_le _, by omega, rfl, (fun j hj => by omega), rfl⟩
      case round =>
        obtain ⟨k, hk, hg, rfl, GD, rfl⟩ := hrel
        by_cases hlt : k < n
        · have hltz : (k : Int) < (n : Int) := by omega
          have hk0 : (0 : Int) ≤ (k : Int) := by omega
          obtain ⟨b, off, rfl, hb, x1⟩ := rd_one HS.out k hlt
          have BS := Lib.hid (E1.out k hlt)
          have GD2 : Hid (badSpare spares[k]! = false → ∀ j, j < k + 1 → badSpare spares[j]! = false) := fun hh j hj => by
            by_cases e : j = k
            · rw [e]; exact hh
            · exact GD.out j (by omega)
          unfold badSpare at BS
          have GD3 : Hid (inB spares[k]! 0 100000 = true → ∀ j, j < k + 1 → badSpare spares[j]! = false) := fun hh => GD2.out (by unfold badSpare; rw [hh]; rfl)
          clear GD2
          generalize spares[k]! = x at x1 BS GD3
          obtain ⟨r, hr⟩ : ∃ r, inB x 0 100000 = r := ⟨_, rfl⟩
          have W2 := Lib.hid (refWithin_q x 0 100000 r hr)
          cases r with
          | false =>
            have he := BS.out (by rw [hr]; rfl)
            subst he
            clear hr BS GD3
            go_wp2_with (go_at_call 77; refine (W2.out _).mono ?_; rintro e w' ⟨rfl, rfl⟩)
            go_ret
            exact ⟨rfl, rfl⟩
          | true =>
            have HG := Lib.hid (GD3.out hr)
            clear hr BS GD3
            go_wp2_with (go_at_call 77; refine (W2.out _).mono ?_; rintro e w' ⟨rfl, rfl⟩)
            go_roundg (n - (k + 1))
            case measure => omega
            case rel => exact ⟨k + 1, by omega, by omega, by go_num, HG.out, rfl⟩
        · have hltz : ¬ (k : Int) < (n : Int) := by omega
          obtain rfl : n = k := by omega
          go_wp2
          go_loopg [6] n2 (fun gg s6 wr => ∃ k : Nat, k ≤ n2 ∧ n2 - k ≤ gg ∧ s6 = .int .i64 k ∧ Aside (∀ j, j < k → badFlight flights[j]! = false) ∧ w = wr)
          case atStart => exact ⟨0, Nat.zero_le _, by omega, rfl, (fun j hj => by omega), rfl⟩
          case round =>
            obtain ⟨k, hk, hg, rfl, GF, rfl⟩ := hrel
            by_cases hlt : k < n2
            · have hltz2 : (k : Int) < (n2 : Int) := by omega
              have hk0 : (0 : Int) ≤ (k : Int) := by omega
              obtain ⟨b, off, rfl, hb, x1⟩ := rd_one HF.out k hlt
              have BS := Lib.hid (E2.out k hlt)
              unfold badFlight at BS
              have GD3 : Hid (inB flights[k]! 1 100000 = true → ∀ j, j < k + 1 → badFlight flights[j]! = false) := fun hh j hj => by
                by_cases e : j = k
                · rw [e]; unfold badFlight; rw [hh]; rfl
                · exact GF.out j (by omega)
              generalize flights[k]! = x at x1 BS GD3
              obtain ⟨r, hr⟩ : ∃ r, inB x 1 100000 = r := ⟨_, rfl⟩
              have W2 := Lib.hid (refWithin_q x 1 100000 r hr)
              cases r with
              | false =>
                have he := BS.out (by rw [hr]; rfl)
                subst he
                clear hr BS GD3
                go_wp2_with (go_at_call 77; refine (W2.out _).mono ?_; rintro e w' ⟨rfl, rfl⟩)
                go_ret
                exact ⟨rfl, rfl⟩
              | true =>
                have HG := Lib.hid (GD3.out hr)
                clear hr BS GD3
                go_wp2_with (go_at_call 77; refine (W2.out _).mono ?_; rintro e w' ⟨rfl, rfl⟩)
                go_roundg (n2 - (k + 1))
                case measure => omega
                case rel => exact ⟨k + 1, by omega, by omega, by go_num, HG.out, rfl⟩
            · have hltz2 : ¬ (k : Int) < (n2 : Int) := by omega
              obtain rfl : n2 = k := by omega
              have he := E0.out GD.out GF.out
              subst he
              go_wp2
              go_ret
              exact ⟨rfl, rfl⟩
end Go.Proofs.YtchnhjffpldpiaaDoor
