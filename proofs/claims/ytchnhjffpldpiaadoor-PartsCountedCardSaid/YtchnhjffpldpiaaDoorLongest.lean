/- parts.Longest -/
import Derived.Test.YtchnhjffpldpiaaDoorOpen
namespace Go.Proofs.YtchnhjffpldpiaaDoor
open Go.RowKit
attribute [local go_sem ↓] Go.wp_at_zero Go.wp_at_succ

/-- A register and works as they lie in a world: what is read below its heap's size. -/
structure Given (w : World) (B : Nat) (ka pa oa la : Option Addr) (nk np no nl : Nat) (r : RegR) (l : List WorkR) : Prop where
  low : B ≤ w.heap.size
  glb : Glb w B
  reg : RegRd w B ka pa oa nk np no r
  works : Rd encWork 4 w B la nl l
theorem Given.below {w W : World} {B : Nat} {ka pa oa la : Option Addr} {nk np no nl : Nat} {r : RegR} {l : List WorkR} (h : Given w B ka pa oa la nk np no nl r l) (hb : Below B w W) : Given W B ka pa oa la nk np no nl r l :=
  ⟨Nat.le_trans h.low hb.size, h.glb.below hb, h.reg.below hb, h.works.below hb⟩

variable {r : RegR} {l : List WorkR} {ka pa oa la : Option Addr} {nk kc np pc no oc nl lc : Nat} {w : World} {B : Nat}

theorem openH_err {i er : Int} (h : openH r l = .inr (i, er)) : er = 90 ∨ er = 2 ∨ er = 91 := by
  unfold openH at h
  split at h
  · split at h
    · split at h
      · cases h
      · injection h with h; injection h with _ h; omega
    · injection h with h; injection h with _ h; omega
  · injection h with h; injection h with _ h; omega

def regV (ka pa oa : Option Addr) (nk kc np pc no oc : Nat) (m : Int) : Value := .agg #[.slice ka nk kc, .slice pa np pc, .int .i64 m, .slice oa no oc]

/-- 'open' where it stops. -/
theorem open_err (h : Given w B ka pa oa la nk np no nl r l) {m : Int} (hm : r.machines = m) {i er : Int} (he : openH r l = .inr (i, er)) :
    ∀ W, Below w.heap.size w W → Calls Tryd.prog 64 #[.agg #[.slice ka nk kc, .slice pa np pc, .int .i64 m, .slice oa no oc], .slice la nl lc] W fun e w' =>
      e = .returned (.tuple #[.pointer none, .int .i64 i, .int .i64 er]) ∧ Below W.heap.size W w' := by
  intro W hW
  subst hm
  have h' := h.below (hW.mono h.low)
  refine (open_any (h'.glb.up h'.low) (h'.reg.up h'.low) (h'.works.up h'.low)).mono fun e w' ho => ?_
  rw [he] at ho
  exact ⟨ho.2, ho.1⟩
/-- 'open' where it does not. -/
theorem open_ok (h : Given w B ka pa oa la nk np no nl r l) {m : Int} (hm : r.machines = m) {H : HS} (he : openH r l = .inl H) :
    ∀ W, Below w.heap.size w W → Calls Tryd.prog 64 #[.agg #[.slice ka nk kc, .slice pa np pc, .int .i64 m, .slice oa no oc], .slice la nl lc] W fun e w' =>
      ∃ L BB, W.heap.size ≤ BB ∧ e = .returned (.tuple #[.pointer (some ⟨L.hb, 0, none⟩), .int .i64 0, .int .i64 0]) ∧ Below W.heap.size W w' ∧ Aside (IsH w' BB L H ∧ H.Fit) := by
  intro W hW
  subst hm
  have h' := h.below (hW.mono h.low)
  refine (open_any (h'.glb.up h'.low) (h'.reg.up h'.low) (h'.works.up h'.low)).mono fun e w' ho => ?_
  rw [he] at ho
  obtain ⟨hb, L, BB, h1, h2, h3, h4⟩ := ho
  exact ⟨L, BB, h1, h2, hb, h3, h4⟩

def longestR (o : HS ⊕ (Int × Int)) (m c : Int) : Int × Int :=
  match o with
  | .inr p => (0, p.2)
  | .inl H => if H.machine m && inB c 0 100 then (if H.longest m c < 0 then (0, 3) else (H.longest m c, 0)) else (0, 1)

theorem ret2_int {a b c d : Int} (h1 : a = c) (h2 : b = d) : Ending.returned (.tuple #[.int .i64 a, .int .i64 b]) = .returned (.tuple #[.int .i64 c, .int .i64 d]) := by rw [h1, h2]

set_option maxRecDepth 100000 in
set_option maxHeartbeats 2000000 in
theorem longest_err (h : Given w B ka pa oa la nk np no nl r l) (m c : Int) {i er : Int} (he : openH r l = .inr (i, er)) :
    Calls Tryd.prog 23 #[.agg #[.slice ka nk kc, .slice pa np pc, .int .i64 r.machines, .slice oa no oc], .slice la nl lc, .int .i64 m, .int .i64 c] w fun e w' =>
      e = .returned (.tuple #[.int .i64 0, .int .i64 er]) ∧ Below w.heap.size w w' := by
  obtain ⟨mm, hm⟩ : ∃ mm, r.machines = mm := ⟨_, rfl⟩
  have O := Lib.hid (open_err (kc := kc) (pc := pc) (oc := oc) (lc := lc) h hm he)
  rw [hm]
  have hz := openH_err he
  clear h hm he
  rcases hz with rfl | rfl | rfl
  all_goals
    go_enter Tryd.func23, Tryd.ntmps23
    go_wp2_with (first | (go_at_call 64; refine (O.out _ ((Below.refl _ _).alloc (Nat.le_refl _) _)).mono ?_; rintro e wo ⟨rfl, hbo⟩))
    go_ret2
    exact ⟨rfl, (((Below.refl _ _).alloc (Nat.le_refl _) _)).trans (hbo.mono (by simp))⟩

theorem machine_q {L : HL} {H : HS} (h : IsH w B L H) (hf : H.Fit) (n : Int) (v : Bool) (hv : H.machine n = v) :
    Calls Tryd.prog 65 #[.pointer (some ⟨L.hb, 0, none⟩), .int .i64 n] w fun e w' => e = .returned (.bool v) ∧ w = w' := by
  subst hv
  exact machine_any h hf n
theorem longest_q {L : HL} {H : HS} (h : IsH w B L H) (hf : H.Fit) (m c n : Int) (hn : H.longest m c = n) :
    Calls Tryd.prog 67 #[.pointer (some ⟨L.hb, 0, none⟩), .int .i64 m, .int .i64 c] w fun e w' => e = .returned (.int .i64 n) ∧ Below w.heap.size w w' := by
  subst hn
  exact longest_any h hf m c

set_option maxRecDepth 100000 in
set_option maxHeartbeats 2000000 in
theorem longest_ok (h : Given w B ka pa oa la nk np no nl r l) (m c : Int) {H : HS} (he : openH r l = .inl H) (p : Int × Int) (hp : longestR (.inl H) m c = p) :
    Calls Tryd.prog 23 #[.agg #[.slice ka nk kc, .slice pa np pc, .int .i64 r.machines, .slice oa no oc], .slice la nl lc, .int .i64 m, .int .i64 c] w fun e w' =>
      e = .returned (.tuple #[.int .i64 p.1, .int .i64 p.2]) ∧ Below w.heap.size w w' := by
  obtain ⟨mm, hm⟩ : ∃ mm, r.machines = mm := ⟨_, rfl⟩
  have O := Lib.hid (open_ok (kc := kc) (pc := pc) (oc := oc) (lc := lc) h hm he)
  rw [hm]
  clear h hm he
  cases hv : H.machine m with
  | false =>
    obtain rfl : p = (0, 1) := by rw [← hp]; simp [longestR, hv]
    have HV := Lib.hid hv
    clear hv hp
    go_enter Tryd.func23, Tryd.ntmps23
    go_wp2_with (first
      | (go_at_call 64; refine (O.out _ ((Below.refl _ _).alloc (Nat.le_refl _) _)).mono ?_; rintro e wo ⟨L, BB, hBB, rfl, hbo, hi⟩)
      | (go_at_call 65; refine (machine_q hi.out.1 hi.out.2 _ false HV.out).mono ?_; rintro e w' ⟨rfl, rfl⟩))
    go_ret2
    exact ⟨rfl, (((Below.refl _ _).alloc (Nat.le_refl _) _)).trans (hbo.mono (by simp))⟩
  | true =>
    cases hc : inB c 0 100 with
    | false =>
      obtain rfl : p = (0, 1) := by rw [← hp]; simp [longestR, hv, hc]
      have HV := Lib.hid hv
      have HC := Lib.hid hc
      clear hc hv hp
      go_enter Tryd.func23, Tryd.ntmps23
      go_wp2_with (first
        | (go_at_call 64; refine (O.out _ ((Below.refl _ _).alloc (Nat.le_refl _) _)).mono ?_; rintro e wo ⟨L, BB, hBB, rfl, hbo, hi⟩)
        | (go_at_call 65; refine (machine_q hi.out.1 hi.out.2 _ true HV.out).mono ?_; rintro e w' ⟨rfl, rfl⟩)
        | (go_at_call 66; refine (within_r _ _ _ false HC.out _).mono ?_; rintro e w' ⟨rfl, rfl⟩))
      go_ret2
      exact ⟨rfl, (((Below.refl _ _).alloc (Nat.le_refl _) _)).trans (hbo.mono (by simp))⟩
    | true =>
      obtain ⟨n, hn⟩ : ∃ n, H.longest m c = n := ⟨_, rfl⟩
      have hpe : p = if n < 0 then (0, 3) else (n, 0) := by rw [← hp]; simp [longestR, hv, hc, hn]
      have HV := Lib.hid hv
      have HC := Lib.hid hc
      have HN := Lib.hid hn
      clear hn hc hv hp
      have hpp : (n < 0 ∧ p = (0, 3)) ∨ (0 ≤ n ∧ p = (n, 0)) := by
        by_cases h0 : n < 0
        · exact .inl ⟨h0, by rw [hpe, if_pos h0]⟩
        · exact .inr ⟨by omega, by rw [hpe, if_neg h0]⟩
      clear hpe
      rcases hpp with ⟨h0, rfl⟩ | ⟨h0, rfl⟩
      all_goals
        go_enter Tryd.func23, Tryd.ntmps23
        go_wp2_with (first
          | (go_at_call 64; refine (O.out _ ((Below.refl _ _).alloc (Nat.le_refl _) _)).mono ?_; rintro e wo ⟨L, BB, hBB, rfl, hbo, hi⟩)
          | (go_at_call 65; refine (machine_q hi.out.1 hi.out.2 _ true HV.out).mono ?_; rintro e w' ⟨rfl, rfl⟩)
          | (go_at_call 66; refine (within_r _ _ _ true HC.out _).mono ?_; rintro e w' ⟨rfl, rfl⟩)
          | (go_at_call 67; refine (longest_q hi.out.1 hi.out.2 _ _ n HN.out).mono ?_; rintro e w' ⟨rfl, hbl⟩))
        go_ret2
        exact ⟨rfl, ((((Below.refl _ _).alloc (Nat.le_refl _) _)).trans (hbo.mono (by simp))).trans (hbl.mono (by have := hbo.size; simp at this; omega))⟩
end Go.Proofs.YtchnhjffpldpiaaDoor
