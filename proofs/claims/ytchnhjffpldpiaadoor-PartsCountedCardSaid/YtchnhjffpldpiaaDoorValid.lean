/- parts.valid: a register is valid exactly if the plain check says so. -/
import Derived.Test.YtchnhjffpldpiaaDoorIdx
import Derived.Test.YtchnhjffpldpiaaDoorPure
import Derived.Handy
import Derived.Laws.EntriesVeiled
namespace Go.Proofs.YtchnhjffpldpiaaDoor
open Go.RowKit

theorem cell_new1 (w : World) (o : Obj) (c : Array Value) (t : TypeId) (i : Nat) : ((w.alloc o).alloc (.cells c t)).cell? ⟨w.heap.size + 1, i, none⟩ = c[i]? := by
  have := World.cell?_alloc_new (w.alloc o) c t i
  rwa [World.size_alloc] at this

set_option maxHeartbeats 400000 in
theorem valid1_any (n : Int) (rb : Nat) (ka : Option Addr) (nk kc : Nat) (w : World) (hk : nk ≤ 1000) (hc : w.cell? ⟨rb, 0, none⟩ = some (.slice ka nk kc)) :
    Calls Tryd.prog 136 #[.int .i64 n, .pointer (some ⟨rb, 0, none⟩)] w fun e w' => e = .returned (.bool (inB n 0 ((nk : Int) - 1))) ∧ w = w' := by
  go_enter Tryd.func136, Tryd.ntmps136
  go_wp2_with (go_at_call 66; refine (within_any _ _ _ _).mono ?_; rintro e w' ⟨rfl, rfl⟩)
  go_ret
  exact ⟨rfl, rfl⟩

set_option maxHeartbeats 400000 in
theorem valid2_any (k : KindR) (w : World) :
    Calls Tryd.prog 138 (#[val_kind k] ++ #[]) w fun e w' => e = .returned (.bool (badKind k)) ∧ Below w.heap.size w w' := by
  simp only [val_kind, Array.append_empty]
  go_enter Tryd.func138, Tryd.ntmps138
  go_wp2_with (go_at_call 66; refine (within_any _ _ _ _).mono ?_; rintro e w' ⟨rfl, rfl⟩)
  all_goals
    go_ret
    exact ⟨ret_bool (by simp [badKind, *]), by go_grown⟩

set_option maxHeartbeats 400000 in
theorem valid3_any (p : PartR) (nk : Nat) (kb rb : Nat) (ka : Option Addr) (kc : Nat) (w : World) (hk : nk ≤ 1000) (hc : w.cell? ⟨rb, 0, none⟩ = some (.slice ka nk kc))
    (hf : w.cell? ⟨kb, 0, none⟩ = some (.func (.func 136) #[] #[.pointer (some ⟨rb, 0, none⟩)])) :
    Calls Tryd.prog 140 (#[val_partR p] ++ #[.pointer (some ⟨kb, 0, none⟩)]) w fun e w' => e = .returned (.bool (badPart nk p)) ∧ Below w.heap.size w w' := by
  have hrb : rb < w.heap.size := World.block_lt_of_cell? w _ hc
  have hkb : kb < w.heap.size := World.block_lt_of_cell? w _ hf
  have hrb' : rb ≠ w.heap.size := by omega
  simp only [val_partR, List.append_toArray, List.cons_append, List.nil_append]
  go_enter Tryd.func140, Tryd.ntmps140
  go_wp2_with (first | (go_at_call 66; refine (within_any _ _ _ _).mono ?_; rintro e w' ⟨rfl, rfl⟩) | (go_at_call 136; refine (valid1_any _ _ ka nk kc _ hk ?_).mono ?_; rotate_left; rintro e w' ⟨rfl, rfl⟩))
  rotate_right
  · rw [World.cell?_alloc_lt _ _ _ hrb]; exact hc
  all_goals
    go_ret
    exact ⟨ret_bool (by simp [badPart, *]), by go_grown⟩

set_option maxHeartbeats 400000 in
theorem valid4_any (o : OrderR) (nk : Nat) (kb rb : Nat) (ka : Option Addr) (kc : Nat) (w : World) (hk : nk ≤ 1000) (hc : w.cell? ⟨rb, 0, none⟩ = some (.slice ka nk kc))
    (hf : w.cell? ⟨kb, 0, none⟩ = some (.func (.func 136) #[] #[.pointer (some ⟨rb, 0, none⟩)])) :
    Calls Tryd.prog 142 (#[val_order o] ++ #[.pointer (some ⟨kb, 0, none⟩)]) w fun e w' => e = .returned (.bool (badOrder nk o)) ∧ Below w.heap.size w w' := by
  have hrb : rb < w.heap.size := World.block_lt_of_cell? w _ hc
  have hkb : kb < w.heap.size := World.block_lt_of_cell? w _ hf
  simp only [val_order, List.append_toArray, List.cons_append, List.nil_append]
  go_enter Tryd.func142, Tryd.ntmps142
  go_wp2_with (first | (go_at_call 66; refine (within_any _ _ _ _).mono ?_; rintro e w' ⟨rfl, rfl⟩) | (go_at_call 136; refine (valid1_any _ _ ka nk kc _ hk ?_).mono ?_; rotate_left; rintro e w' ⟨rfl, rfl⟩))
  rotate_right
  · rw [World.cell?_alloc_lt _ _ _ hrb]; exact hc
  all_goals
    go_ret
    exact ⟨ret_bool (by simp [badOrder, *]), by go_grown⟩

/-- A register's value, and what it reads as. -/
structure RegRd (w : World) (B : Nat) (ka pa oa : Option Addr) (nk np no : Nat) (r : RegR) : Prop where
  kinds : Rd encKind 3 w B ka nk r.kinds
  parts : Rd encPart 4 w B pa np r.parts
  orders : Rd encOrder 2 w B oa no r.orders

theorem RegRd.below {w w' : World} {B : Nat} {ka pa oa : Option Addr} {nk np no : Nat} {r : RegR} (h : RegRd w B ka pa oa nk np no r) (hb : Below B w w') : RegRd w' B ka pa oa nk np no r :=
  ⟨h.kinds.below hb, h.parts.below hb, h.orders.below hb⟩
theorem RegRd.up {w : World} {B B' : Nat} {ka pa oa : Option Addr} {nk np no : Nat} {r : RegR} (h : RegRd w B ka pa oa nk np no r) (hb : B ≤ B') : RegRd w B' ka pa oa nk np no r :=
  ⟨h.kinds.up hb, h.parts.up hb, h.orders.up hb⟩

set_option maxHeartbeats 1000000 in
theorem valid_any (r : RegR) (ka pa oa : Option Addr) (nk kc np pc no oc : Nat) (w : World) (B : Nat) (hB : B ≤ w.heap.size) (hR : RegRd w B ka pa oa nk np no r) :
    Calls Tryd.prog 117 #[.agg #[.slice ka nk kc, .slice pa np pc, .int .i64 r.machines, .slice oa no oc]] w fun e w' =>
      e = .returned (.bool (validReg r)) ∧ Below w.heap.size w w' := by
  have hk := hR.kinds.len
  have hp := hR.parts.len
  have ho := hR.orders.len
  have hkb := hR.kinds.big
  have hpb := hR.parts.big
  have hob := hR.orders.big
  have HK := Lib.hid hk
  have HP := Lib.hid hp
  have HO := Lib.hid ho
  clear hk hp ho
  by_cases hg : (6 < (nk : Int) ∨ 24 < (np : Int) ∨ 6 < (no : Int) ∨ inB r.machines 0 4 = false)
  · have hv : validReg r = false := by
      unfold validReg
      rw [← HK.out, ← HP.out, ← HO.out]
      rcases hg with h | h | h | h <;> simp [h]
    have HV := Lib.hid hv
    clear hv hR
    go_enter Tryd.func117, Tryd.ntmps117
    go_wp2_with (first | (go_at_call 66; refine (within_any _ _ _ _).mono ?_; rintro e w' ⟨rfl, rfl⟩))
    all_goals first
      | (go_ret; exact ⟨ret_bool (by rw [HV.out]), by go_grown⟩)
      | (exfalso; rcases hg with h | h | h | h <;> first | omega | (simp_all; done))
  · have h1 : (nk : Int) ≤ 6 := by omega
    have h2 : (np : Int) ≤ 24 := by omega
    have h3 : (no : Int) ≤ 6 := by omega
    have h4 : inB r.machines 0 4 = true := by
      by_cases h : inB r.machines 0 4 = true
      · exact h
      · simp_all
    clear hg
    have HV : Aside (validReg r = (!r.kinds.any badKind && !r.parts.any (badPart nk) && !r.orders.any (badOrder nk))) := by
      show _ = _
      unfold validReg
      rw [← HK.out, ← HP.out, ← HO.out]
      simp [h1, h2, h3, h4]
    have HR : Aside (RegRd w B ka pa oa nk np no r) := hR
    clear hR
    have e138 := enters_of (P := Tryd.prog) Tryd.func138 (by kernel_rfl) rfl
    have e140 := enters_of (P := Tryd.prog) Tryd.func140 (by kernel_rfl) rfl
    have e142 := enters_of (P := Tryd.prog) Tryd.func142 (by kernel_rfl) rfl
    go_enter Tryd.func117, Tryd.ntmps117
    go_wp2_with (first | (go_at_call 66; refine (within_any _ _ _ _).mono ?_; rintro e w' ⟨rfl, rfl⟩))
    refine Calls_named fun W hW => ?_
    have c0 : W.cell? ⟨w.heap.size, 0, none⟩ = some (.slice ka nk kc) := by rw [hW]; simp [World.cell?_alloc_old]
    have c1 : W.cell? ⟨w.heap.size, 1, none⟩ = some (.slice pa np pc) := by rw [hW]; simp [World.cell?_alloc_old]
    have c3 : W.cell? ⟨w.heap.size, 3, none⟩ = some (.slice oa no oc) := by rw [hW]; simp [World.cell?_alloc_old]
    have ck : W.cell? ⟨w.heap.size + 1, 0, none⟩ = some (.func (.func 136) #[] #[.pointer (some ⟨w.heap.size, 0, none⟩)]) := by
      rw [hW, cell_new1]; rfl
    have hBW : Below w.heap.size w W := by rw [hW]; exact ((Below.refl _ _).alloc (Nat.le_refl _) _).alloc (by simp) _
    have hsz : W.heap.size = w.heap.size + 2 := by rw [hW]; simp
    clear hW
    have hsz1 : B ≤ W.heap.size := by omega
    have RK := HR.out.kinds.below (hBW.mono hB)
    have RP := HR.out.parts.below (hBW.mono hB)
    have RO := HR.out.orders.below (hBW.mono hB)
    have hk1 : nk ≤ 1000 := by omega
    have K1 := Lib.hid (contains_kind r.kinds badKind _ #[] e138 ka nk kc W B hsz1 RK (fun j hj W' hW' => valid2_any _ W'))
    have K2 : Aside (∀ W1, Below W.heap.size W W1 → Calls Tryd.prog 139 #[.slice pa np pc, .func (.func 140) #[] #[.pointer (some ⟨w.heap.size + 1, 0, none⟩)]] W1 fun e w' =>
      e = .returned (.bool (r.parts.any (badPart nk))) ∧ Below W1.heap.size W1 w') := fun W1 h1 =>
      contains_partR r.parts (badPart nk) _ _ e140 pa np pc W1 B (by have := h1.size; omega) (RP.below (h1.mono (by omega))) (fun j hj W' hW' =>
        valid3_any _ nk (w.heap.size + 1) w.heap.size ka kc W' hk1
          (by rw [(hW'.mono h1.size).cell (by simp; omega), h1.cell (by simp; omega)]; exact c0)
          (by rw [(hW'.mono h1.size).cell (by simp; omega), h1.cell (by simp; omega)]; exact ck))
    have K3 : Aside (∀ W1, Below W.heap.size W W1 → Calls Tryd.prog 141 #[.slice oa no oc, .func (.func 142) #[] #[.pointer (some ⟨w.heap.size + 1, 0, none⟩)]] W1 fun e w' =>
      e = .returned (.bool (r.orders.any (badOrder nk))) ∧ Below W1.heap.size W1 w') := fun W1 h1 =>
      contains_order r.orders (badOrder nk) _ _ e142 oa no oc W1 B (by have := h1.size; omega) (RO.below (h1.mono (by omega))) (fun j hj W' hW' =>
        valid4_any _ nk (w.heap.size + 1) w.heap.size ka kc W' hk1
          (by rw [(hW'.mono h1.size).cell (by simp; omega), h1.cell (by simp; omega)]; exact c0)
          (by rw [(hW'.mono h1.size).cell (by simp; omega), h1.cell (by simp; omega)]; exact ck))
    clear RK RP RO
    refine K1.out.mono ?_
    rintro e W1 ⟨rfl, hW1⟩
    have hs1 := hW1.size
    have d0 : W1.cell? ⟨w.heap.size, 0, none⟩ = some (.slice ka nk kc) := by rw [hW1.cell (by simp; omega)]; exact c0
    have d1 : W1.cell? ⟨w.heap.size, 1, none⟩ = some (.slice pa np pc) := by rw [hW1.cell (by simp; omega)]; exact c1
    have d3 : W1.cell? ⟨w.heap.size, 3, none⟩ = some (.slice oa no oc) := by rw [hW1.cell (by simp; omega)]; exact c3
    clear c0 c1 c3 ck
    have hB1 := Lib.hid (hBW.trans (hW1.mono (by omega)))
    cases q1 : r.kinds.any badKind with
    | true =>
      go_wp2
      go_ret
      exact ⟨ret_bool (by rw [HV.out, q1]; rfl), hB1.out⟩
    | false =>
      go_wp2_with fail
      refine (K2.out _ hW1).mono ?_
      rintro e W2 ⟨rfl, hW2⟩
      have hs2 := hW2.size
      have f3 : W2.cell? ⟨w.heap.size, 3, none⟩ = some (.slice oa no oc) := by rw [hW2.cell (by simp; omega)]; exact d3
      clear d0 d1 d3
      have hB2 := Lib.hid (hB1.out.trans (hW2.mono (by omega)))
      cases q2 : r.parts.any (badPart nk) with
      | true =>
        go_wp2
        go_ret
        exact ⟨ret_bool (by rw [HV.out, q1, q2]; rfl), hB2.out⟩
      | false =>
        go_wp2_with fail
        refine (K3.out _ (hW1.trans (hW2.mono hW1.size))).mono ?_
        rintro e W3 ⟨rfl, hW3⟩
        go_wp2
        go_ret
        exact ⟨ret_bool (by rw [HV.out, q1, q2]; simp), hB2.out.trans (hW3.mono (by omega))⟩
end Go.Proofs.YtchnhjffpldpiaaDoor
