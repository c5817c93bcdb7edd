/- parts.open -/
import Derived.Test.YtchnhjffpldpiaaDoorNewH
import Derived.Test.YtchnhjffpldpiaaDoorKeep
import Derived.Test.YtchnhjffpldpiaaDoorD4
namespace Go.Proofs.YtchnhjffpldpiaaDoor
open Go.RowKit
attribute [local go_sem ↓] Go.wp_at_zero Go.wp_at_succ

/-- What 'open' leaves. -/
def Opened (w : World) (res : HS ⊕ (Int × Int)) (e : Ending) (w' : World) : Prop :=
  Below w.heap.size w w' ∧ match res with
  | .inl H => ∃ L B, w.heap.size ≤ B ∧ e = .returned (.tuple #[.pointer (some ⟨L.hb, 0, none⟩), .int .i64 0, .int .i64 0]) ∧ IsH w' B L H ∧ H.Fit
  | .inr (i, er) => e = .returned (.tuple #[.pointer none, .int .i64 i, .int .i64 er])

theorem Opened.no {w w' : World} {i er : Int} (hb : Below w.heap.size w w') : Opened w (.inr (i, er)) (.returned (.tuple #[.pointer none, .int .i64 i, .int .i64 er])) w' := ⟨hb, rfl⟩

theorem valid_q (r : RegR) (v : Bool) (hv : validReg r = v) (ka pa oa : Option Addr) (nk kc np pc no oc : Nat) (m : Int) (hm : r.machines = m) (w : World) (B : Nat) (hB : B ≤ w.heap.size) (hR : RegRd w B ka pa oa nk np no r) :
    Calls Tryd.prog 117 #[.agg #[.slice ka nk kc, .slice pa np pc, .int .i64 m, .slice oa no oc]] w fun e w' =>
      e = .returned (.bool v) ∧ Below w.heap.size w w' := by
  subst hv hm; exact valid_any r ka pa oa nk kc np pc no oc w B hB hR

variable {r : RegR} {l : List WorkR} {ka pa oa la : Option Addr} {nk kc np pc no oc nl lc : Nat} {w : World}

set_option maxHeartbeats 1000000 in
theorem open_bad (hv : validReg r = false) (hR : RegRd w w.heap.size ka pa oa nk np no r) :
    Calls Tryd.prog 64 #[.agg #[.slice ka nk kc, .slice pa np pc, .int .i64 r.machines, .slice oa no oc], .slice la nl lc] w (Opened w (.inr (0, 90))) := by
  obtain ⟨m, hm⟩ : ∃ m, r.machines = m := ⟨_, rfl⟩
  have V := Lib.hid (fun (W : World) (hW : Below w.heap.size w W) => valid_q r false hv ka pa oa nk kc np pc no oc m hm W w.heap.size hW.size (hR.below hW))
  rw [hm]
  clear hv hR hm
  go_enter Tryd.func64, Tryd.ntmps64
  go_wp2_with (first | (go_at_call 117; refine (V.out _ ((Below.refl _ _).alloc (Nat.le_refl _) _)).mono ?_; rintro e w' ⟨rfl, hb⟩))
  go_ret3
  exact Opened.no ((((Below.refl _ _).alloc (Nat.le_refl _) _)).trans (hb.mono (by simp)))

set_option maxHeartbeats 1000000 in
theorem open_many (hv : validReg r = true) (hl : 200 < (nl : Int)) (hR : RegRd w w.heap.size ka pa oa nk np no r) :
    Calls Tryd.prog 64 #[.agg #[.slice ka nk kc, .slice pa np pc, .int .i64 r.machines, .slice oa no oc], .slice la nl lc] w (Opened w (.inr (0, 2))) := by
  obtain ⟨m, hm⟩ : ∃ m, r.machines = m := ⟨_, rfl⟩
  have V := Lib.hid (fun (W : World) (hW : Below w.heap.size w W) => valid_q r true hv ka pa oa nk kc np pc no oc m hm W w.heap.size hW.size (hR.below hW))
  rw [hm]
  clear hv hR hm
  go_enter Tryd.func64, Tryd.ntmps64
  go_wp2_with (first | (go_at_call 117; refine (V.out _ ((Below.refl _ _).alloc (Nat.le_refl _) _)).mono ?_; rintro e w' ⟨rfl, hb⟩))
  go_ret3
  exact Opened.no ((((Below.refl _ _).alloc (Nat.le_refl _) _)).trans (hb.mono (by simp)))

theorem bcell {W w1 : World} (hb : Below W.heap.size W w1) : (∀ b o, b < W.heap.size → w1.cell? ⟨b, o, none⟩ = W.cell? ⟨b, o, none⟩) ∧ (∀ b o, b < W.heap.size → w1.frozen? ⟨b, o, none⟩ = W.frozen? ⟨b, o, none⟩) :=
  ⟨fun b o h => hb.cell (p := ⟨b, o, none⟩) h, fun b o h => hb.frozen (p := ⟨b, o, none⟩) h⟩

/-- The answer of 'open' by what the works come to. -/
def opened : HS ⊕ Nat → HS ⊕ (Int × Int)
  | .inl H => .inl H
  | .inr i => .inr (i, 91)

theorem runWorks_drop (H : HS) (l : List WorkR) (k : Nat) (x : WorkR) (hk : k < l.length) (hx : l[k]! = x) :
    runWorks H (l.drop k) k = match H.doWork x with | some H' => runWorks { H' with works := H'.works + 1 } (l.drop (k + 1)) (k + 1) | none => .inr k := by
  rw [List.drop_eq_getElem_cons hk, ← getElem!_pos l k hk, hx]
  rfl

/-- What holds between two works. -/
structure AtWork (w wr : World) (r : RegR) (l : List WorkR) (hb k : Nat) (R : HS ⊕ Nat) (L : HL) (B : Nat) (H : HS) : Prop where
  hb : L.hb = hb
  lies : IsH wr B L H
  low : w.heap.size ≤ B
  fit : H.Fit
  op : H.Open
  works : H.works = k
  left : runWorks H (l.drop k) k = R
  bel : Below w.heap.size w wr

theorem AtWork.next {w wr wd : World} {r : RegR} {l : List WorkR} {hb k : Nat} {R : HS ⊕ Nat} {L : HL} {B : Nat} {H H1 : HS} (h : AtWork w wr r l hb k R L B H) (hd : DidW wr B L H (some H1) wd) (st : Stp H H1) (hr : runWorks H (l.drop k) k = runWorks { H1 with works := H1.works + 1 } (l.drop (k + 1)) (k + 1)) (hk : k < 200) :
    wd.cell? ⟨hb, 7, none⟩ = some (.int .i64 k) ∧ wd.frozen? ⟨hb, 7, none⟩ = false ∧ ∃ L1, AtWork w (wd.setCell ⟨hb, 7, none⟩ (.int .i64 ((k : Int) + 1))) r l hb (k + 1) R L1 B H1.bump := by
  obtain ⟨hbel, L1, e1, i1⟩ := hd
  have i1 : IsH wd B L1 H1 := i1
  have e2 : L1.hb = hb := e1.trans h.hb
  have ew : H1.works = k := st.works.trans h.works
  have hw := h.works
  refine ⟨?_, ?_, L1, ?_⟩
  · rw [← e2, i1.h7, ew]
  · rw [← e2]; exact i1.frozen .h trivial 7
  · have hkp := st.keep h.fit h.op (by omega)
    have hp := i1.putWorks ((k : Int) + 1)
    rw [e2] at hp
    refine ⟨e2, ?_, h.low, hkp.1, hkp.2, ?_, ?_, ?_⟩
    · have : H1.bump = { H1 with works := (k : Int) + 1 } := by unfold HS.bump; rw [ew]
      rw [this]; exact hp
    · show H1.works + 1 = _; rw [ew]; push_cast; rfl
    · rw [← h.left, hr]; rfl
    · refine Below.setCell (h.bel.trans (hbel.mono h.low)) ?_ _
      have := (i1.blocks .h trivial).2
      simp only [HL.blk] at this
      have := h.low
      show w.heap.size ≤ hb
      omega

set_option maxRecDepth 100000 in
set_option maxHeartbeats 2000000 in
theorem open_go (hv : validReg r = true) (hn : (nl : Int) ≤ 200) (hG : Glb w w.heap.size) (hR : RegRd w w.heap.size ka pa oa nk np no r) (hL : Rd encWork 4 w w.heap.size la nl l) :
    Calls Tryd.prog 64 #[.agg #[.slice ka nk kc, .slice pa np pc, .int .i64 r.machines, .slice oa no oc], .slice la nl lc] w (Opened w (opened (runWorks (newHS r) l 0))) := by
  have sm := small_of_valid hv
  obtain ⟨m, hm⟩ : ∃ m : Nat, r.machines = (m : Int) := ⟨r.machines.toNat, by have := sm.m0; omega⟩
  have V := Lib.hid (fun (W : World) (hW : Below w.heap.size w W) => valid_q r true hv ka pa oa nk kc np pc no oc m hm W w.heap.size hW.size (hR.below hW))
  have e1 := hR.kinds.len
  have e2 := hR.parts.len
  have e3 := hR.orders.len
  have NH := Lib.hid (fun (W : World) (hW : Below w.heap.size w W) => by
    have := newHangar_any r ka pa oa kc pc oc m W ((hG.below hW).up hW.size) (by rw [← e1, ← e2, ← e3]; exact (hR.below hW).up hW.size) sm.np sm.no (by have := sm.m1; omega) hm
    rw [← e1, ← e2, ← e3] at this
    exact this)
  obtain ⟨R, hRR⟩ : ∃ R, runWorks (newHS r) l 0 = R := ⟨_, rfl⟩
  obtain ⟨f0, o0⟩ := new_fit r hv
  have N0 := Lib.hid (And.intro f0 o0)
  have HRD := Lib.hid hL
  have HRR := Lib.hid hRR
  have HLL := Lib.hid hL.len
  rw [hRR, hm]
  clear hv hG hR hL hm sm e1 e2 e3 hRR f0 o0
  go_enter Tryd.func64, Tryd.ntmps64
  go_wp2_with (first
    | (go_at_call 117; refine (V.out _ ((Below.refl _ _).alloc (Nat.le_refl _) _)).mono ?_; rintro e wv ⟨rfl, hbv⟩; obtain ⟨hcv, hfv⟩ := bcell hbv)
    | (go_at_call 118; refine (NH.out _ ((((Below.refl _ _).alloc (Nat.le_refl _) _)).trans (hbv.mono (by simp)))).mono ?_; rintro e wn ⟨L0, rfl, hbn, hin⟩))
  have A0 : Aside (AtWork w wn r l L0.hb 0 R L0 (wv.heap.size + 1) (newHS r)) := by
    have b1 : Below w.heap.size w wv := (((Below.refl _ _).alloc (Nat.le_refl _) _)).trans (hbv.mono (by simp))
    exact ⟨rfl, hin, by have := b1.size; omega, N0.out.1, N0.out.2, rfl, HRR.out, b1.trans (hbn.mono b1.size)⟩
  obtain ⟨hb, hhb⟩ : ∃ hb, L0.hb = hb := ⟨_, rfl⟩
  rw [hhb] at A0 ⊢
  clear hhb hin hbn hbv hcv hfv
  go_loopg [4, 19] nl (fun gg s4 s19 wr => ∃ (k : Nat) (L : HL) (B : Nat) (H : HS), k ≤ nl ∧ nl - k ≤ gg ∧ s4 = .pointer (some ⟨hb, 0, none⟩) ∧ s19 = .int .i64 k ∧ Aside (AtWork w wr r l hb k R L B H))
  case atStart => exact ⟨0, L0, _, newHS r, Nat.zero_le _, by omega, rfl, rfl, A0⟩
  case round =>
    obtain ⟨k, L, B, H, hk, hg, rfl, rfl, AW⟩ := hrel
    by_cases hlt : k < nl
    · obtain ⟨lb, loff, hla, hlc⟩ := HRD.out.ex
      obtain ⟨rfl, hlb⟩ := hla (by omega)
      have q0 := (AW.out.bel.cell (p := ⟨lb, loff + k * 4, none⟩) hlb).trans (hlc k hlt 0 _ rfl)
      have q1 := (AW.out.bel.cell (p := ⟨lb, loff + k * 4 + 1, none⟩) hlb).trans (hlc k hlt 1 _ rfl)
      have q2 := (AW.out.bel.cell (p := ⟨lb, loff + k * 4 + 2, none⟩) hlb).trans (hlc k hlt 2 _ rfl)
      have q3 := (AW.out.bel.cell (p := ⟨lb, loff + k * 4 + 3, none⟩) hlb).trans (hlc k hlt 3 _ rfl)
      have hltz : (k : Int) < (nl : Int) := by omega
      have hk0 : (0 : Int) ≤ (k : Int) := by omega
      clear hla hlc
      obtain ⟨x, hx⟩ : ∃ x, l[k]! = x := ⟨_, rfl⟩
      rw [hx] at q0 q1 q2 q3
      have hD := do_any AW.out.lies AW.out.fit x
      have hrun := runWorks_drop H l k x (by rw [← HLL.out]; exact hlt) hx
      obtain ⟨xk, xa, xb, xc⟩ := x
      simp only at q0 q1 q2 q3
      have KD : Hid (∀ W : World, Below wr.heap.size wr W → Calls Tryd.prog 119 #[.pointer (some ⟨L.hb, 0, none⟩), .agg #[.int .i64 xk, .int .i64 xa, .int .i64 xb, .int .i64 xc]] W fun e w' => e = .returned (.bool (H.doWork ⟨xk, xa, xb, xc⟩).isSome) ∧ DidW wr B L H (H.doWork ⟨xk, xa, xb, xc⟩) w') := Lib.hid (fun (W : World) (hW : Below wr.heap.size wr W) => Did.at (B := B) (w := wr) (hW.mono AW.out.lies.base) (do_any (AW.out.lies.below hW) AW.out.fit ⟨xk, xa, xb, xc⟩))
      have ehb : L.hb = hb := AW.out.hb
      rw [ehb] at KD
      have EHB := Lib.hid ehb
      clear hx hD ehb
      cases hd : H.doWork ⟨xk, xa, xb, xc⟩ with
      | none =>
        rw [hd] at hrun KD
        have HRUN := Lib.hid hrun
        clear hrun hd
        go_wp2_with (first | (go_at_call 119; refine (KD.out _ ((Below.refl _ _).alloc (Nat.le_refl _) _)).mono ?_; rintro e wd ⟨rfl, hdd⟩))
        go_ret3
        rw [← AW.out.left, HRUN.out]
        exact Opened.no (AW.out.bel.trans (hdd.1.mono AW.out.low))
      | some H1 =>
        have st := work_stp AW.out.fit _ hd
        rw [hd] at hrun KD
        have HRUN := Lib.hid hrun
        have ST := Lib.hid st
        clear hrun hd st
        go_wp2_with (first | (go_at_call 119; refine (KD.out _ ((Below.refl _ _).alloc (Nat.le_refl _) _)).mono ?_; rintro e wd ⟨rfl, hdd⟩; obtain ⟨c7, f7, L1, a1⟩ := AW.out.next hdd ST.out HRUN.out (by omega); have A1 := Lib.hid a1; clear a1 hdd))
        go_roundg (nl - (k + 1))
        case rel => exact ⟨k + 1, L1, B, H1.bump, by omega, by omega, rfl, by go_num, A1.out⟩
        case measure => omega
    · have hltz : ¬ (k : Int) < (nl : Int) := by omega
      have : k = nl := by omega
      subst this
      go_wp2
      go_ret3
      have e : R = .inl H := by
        have h := AW.out.left
        have h2 : l.drop k = [] := List.drop_eq_nil_of_le (by have := HLL.out; omega)
        rw [h2] at h
        exact h.symm
      rw [e]
      exact ⟨AW.out.bel, L, B, AW.out.low, by rw [AW.out.hb]; rfl, AW.out.lies, AW.out.fit⟩

theorem open_any (hG : Glb w w.heap.size) (hR : RegRd w w.heap.size ka pa oa nk np no r) (hL : Rd encWork 4 w w.heap.size la nl l) :
    Calls Tryd.prog 64 #[.agg #[.slice ka nk kc, .slice pa np pc, .int .i64 r.machines, .slice oa no oc], .slice la nl lc] w (Opened w (openH r l)) := by
  unfold openH
  cases hv : validReg r with
  | false => exact open_bad hv hR
  | true =>
    rw [if_pos rfl]
    have hlen := hL.len
    by_cases hl : l.length ≤ 200
    · rw [if_pos hl]
      refine (open_go hv (by omega) hG hR hL).mono fun e w' h => ?_
      cases hr : runWorks (newHS r) l 0 <;> rw [hr] at h <;> exact h
    · rw [if_neg hl]
      exact open_many hv (by omega) hR
end Go.Proofs.YtchnhjffpldpiaaDoor
