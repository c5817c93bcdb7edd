/- hangar.do, walked: the works that are done by functions of their own, and the unknown ones. -/
import Derived.Test.YtchnhjffpldpiaaDoorH8
namespace Go.Proofs.YtchnhjffpldpiaaDoor
open Go.RowKit
attribute [local go_sem] eqi_spot eqi_pair gd_spot gd_pair
attribute [local go_sem ↓] Go.wp_at_zero Go.wp_at_succ

variable {w : World} {B : Nat} {L : HL} {H : HS}

theorem fly_any (h : IsH w B L H) (hf : H.Fit) (m hours cyc : Int) :
    Calls Tryd.prog 143 #[.pointer (some ⟨L.hb, 0, none⟩), .int .i64 m, .int .i64 hours, .int .i64 cyc] w (Did w B L H (H.fly m hours cyc)) := by
  cases hg : flyGuard H m hours cyc with
  | false =>
    have e : H.fly m hours cyc = none := by simp [HS.fly, hg]
    refine (fly_no h hf m hours cyc hg).mono ?_
    rintro e w' ⟨rfl, hb⟩
    exact did_no (by assumption) h hb
  | true =>
    have e : H.fly m hours cyc = some { H with parts := H.parts.map (flyPart H m hours cyc), flown := addFlown H.flown m.toNat hours cyc } := by simp [HS.fly, hg]
    refine (fly_yes h hf m hours cyc hg).mono ?_
    rintro e w' ⟨rfl, hb, hi⟩
    refine ⟨by simp [*], hb, L, rfl, ?_⟩
    rw [‹H.fly m hours cyc = _›]
    exact hi

theorem check_did (h : IsH w B L H) (hf : H.Fit) (n o : Int) :
    Calls Tryd.prog 145 #[.pointer (some ⟨L.hb, 0, none⟩), .int .i64 n, .int .i64 o] w (Did w B L H (H.check n o)) := by
  refine (check_any h hf n o).mono ?_
  rintro e w' ⟨he, hb, hi⟩
  exact ⟨he, hb, L, rfl, hi⟩

/-- What is left of 'Did' when the answer is known. -/
def DidW (w : World) (B : Nat) (L : HL) (H : HS) (r : Option HS) (w' : World) : Prop := Below B w w' ∧ ∃ L', L'.hb = L.hb ∧ IsH w' B L' (r.getD H)
theorem Did.from {w W w' : World} {r : Option HS} {e : Ending} (hb : Below B w W) (hd : Did W B L H r e w') : Did w B L H r e w' :=
  ⟨hd.1, hb.trans hd.2.1, hd.2.2⟩


theorem Did.at {w W : World} {r : Option HS} {f : FuncId} {args : Array Value} (hb : Below B w W) (h : Calls Tryd.prog f args W (Did W B L H r)) :
    Calls Tryd.prog f args W fun e w' => e = .returned (.bool r.isSome) ∧ DidW w B L H r w' :=
  h.mono fun _ _ hd => ⟨hd.1, hb.trans hd.2.1, hd.2.2⟩

set_option maxRecDepth 100000 in
set_option maxHeartbeats 1000000 in
theorem do_1 (h : IsH w B L H) (hf : H.Fit) (a b c : Int) :
    Calls Tryd.prog 119 #[.pointer (some ⟨L.hb, 0, none⟩), .agg #[.int .i64 1, .int .i64 a, .int .i64 b, .int .i64 c]] w (Did w B L H (H.fly a b c)) := by
  have K := Lib.hid (fun (W : World) (hW : Below w.heap.size w W) => Did.at (hW.mono h.base) (fly_any (h.below hW) hf a b c))
  clear h hf
  generalize H.fly a b c = r at K ⊢
  by_cases hb0 : b = 0
  · subst hb0
    go_enter Tryd.func119, Tryd.ntmps119
    go_wp2_with (first | (go_at_call 143; refine (K.out _ ((Below.refl _ _).alloc (Nat.le_refl _) _)).mono ?_; rintro e w' ⟨rfl, hd⟩))
    all_goals (go_ret; exact ⟨rfl, hd⟩)
  · go_enter Tryd.func119, Tryd.ntmps119
    go_wp2_with (first | (go_at_call 143; refine (K.out _ ((Below.refl _ _).alloc (Nat.le_refl _) _)).mono ?_; rintro e w' ⟨rfl, hd⟩))
    all_goals (go_ret; exact ⟨rfl, hd⟩)

set_option maxRecDepth 100000 in
set_option maxHeartbeats 1000000 in
theorem do_2 (h : IsH w B L H) (hf : H.Fit) (a b c : Int) :
    Calls Tryd.prog 119 #[.pointer (some ⟨L.hb, 0, none⟩), .agg #[.int .i64 2, .int .i64 a, .int .i64 b, .int .i64 c]] w (Did w B L H (H.fit a b c)) := by
  have K := Lib.hid (fun (W : World) (hW : Below w.heap.size w W) => Did.at (hW.mono h.base) (fit_any (h.below hW) hf a b c))
  clear h hf
  generalize H.fit a b c = r at K ⊢
  by_cases hb0 : b = 0
  · subst hb0
    go_enter Tryd.func119, Tryd.ntmps119
    go_wp2_with (first | (go_at_call 144; refine (K.out _ ((Below.refl _ _).alloc (Nat.le_refl _) _)).mono ?_; rintro e w' ⟨rfl, hd⟩))
    all_goals (go_ret; exact ⟨rfl, hd⟩)
  · go_enter Tryd.func119, Tryd.ntmps119
    go_wp2_with (first | (go_at_call 144; refine (K.out _ ((Below.refl _ _).alloc (Nat.le_refl _) _)).mono ?_; rintro e w' ⟨rfl, hd⟩))
    all_goals (go_ret; exact ⟨rfl, hd⟩)

set_option maxRecDepth 100000 in
set_option maxHeartbeats 1000000 in
theorem do_5 (h : IsH w B L H) (hf : H.Fit) (a b c : Int) :
    Calls Tryd.prog 119 #[.pointer (some ⟨L.hb, 0, none⟩), .agg #[.int .i64 5, .int .i64 a, .int .i64 b, .int .i64 c]] w (Did w B L H (if c = 0 then H.check a b else none)) := by
  by_cases hc : c = 0
  · subst hc
    rw [if_pos rfl]
    have K := Lib.hid (fun (W : World) (hW : Below w.heap.size w W) => Did.at (hW.mono h.base) (check_did (h.below hW) hf a b))
    clear h hf
    generalize H.check a b = r at K ⊢
    by_cases hb0 : b = 0
    · subst hb0
      go_enter Tryd.func119, Tryd.ntmps119
      go_wp2_with (first | (go_at_call 145; refine (K.out _ ((Below.refl _ _).alloc (Nat.le_refl _) _)).mono ?_; rintro e w' ⟨rfl, hd⟩))
      all_goals (go_ret; exact ⟨rfl, hd⟩)
    · go_enter Tryd.func119, Tryd.ntmps119
      go_wp2_with (first | (go_at_call 145; refine (K.out _ ((Below.refl _ _).alloc (Nat.le_refl _) _)).mono ?_; rintro e w' ⟨rfl, hd⟩))
      all_goals (go_ret; exact ⟨rfl, hd⟩)
  · rw [if_neg hc]
    have HH := Lib.hid h
    clear h hf
    go_enter Tryd.func119, Tryd.ntmps119
    go_wp2
    all_goals (go_ret; exact did_no rfl HH.out ((Below.refl _ _).alloc (Nat.le_refl _) _))

set_option maxRecDepth 100000 in
set_option maxHeartbeats 1000000 in
theorem do_other (h : IsH w B L H) (k a b c : Int) (h1 : k ≠ 1) (h2 : k ≠ 2) (h3 : k ≠ 3) (h4 : k ≠ 4) (h5 : k ≠ 5) (h6 : k ≠ 6) :
    Calls Tryd.prog 119 #[.pointer (some ⟨L.hb, 0, none⟩), .agg #[.int .i64 k, .int .i64 a, .int .i64 b, .int .i64 c]] w (Did w B L H none) := by
  have HH := Lib.hid h
  clear h
  go_enter Tryd.func119, Tryd.ntmps119
  go_wp2
  all_goals (go_ret; exact did_no rfl HH.out ((Below.refl _ _).alloc (Nat.le_refl _) _))
end Go.Proofs.YtchnhjffpldpiaaDoor
