/- slices.IndexFunc and slices.ContainsFunc at the element types of this seat: each returns what the plain list function does, for every predicate that keeps old memory. -/
import Derived.Test.YtchnhjffpldpiaaDoorModel
import Derived.Test.YtchnhjffpldpiaaDoorA1
import Derived.Deep.LoopGhost
import Derived.Shelf.Abstract
namespace Go.Proofs.YtchnhjffpldpiaaDoor
open Go.RowKit

def val_int : Int → Value := fun n : Int => Value.int .i64 n
set_option maxHeartbeats 400000 in
theorem index_int (zs : List Int) (p : Int → Bool) (g : Nat) (lb : Array Value) (eg : ∀ args w, (callFunc g args).run Tryd.prog w = .ok (.enter g args) w)
   (a : Option Addr) (n c : Nat) (w : World) (B : Nat) (hB : B ≤ w.heap.size) (hR : Rd encInt 1 w B a n zs) (hp : PredOn Tryd.prog val_int g lb p zs w) :
    Calls Tryd.prog 123 #[.slice a n c, .func (.func g) #[] lb] w fun e w' =>
      e = .returned (.int .i64 (idxFrom p zs 0)) ∧ Below w.heap.size w w' := by
  have hbig := hR.big
  obtain ⟨b, off, ha, hc⟩ := hR.ex
  have HN := Lib.hid hR.len
  have HB : Aside (∀ W, Below w.heap.size w W → Below B w W) := fun W hW => hW.mono hB
  clear hR hB
  go_enter Tryd.func123, Tryd.ntmps123
  go_wp2
  go_loopg [5, 8] n (fun gg _ s8 wr => ∃ kk : Nat, kk ≤ n ∧ n - kk ≤ gg ∧ s8 = .int .i64 kk ∧ Aside (Below w.heap.size w wr) ∧ Aside (idxFrom p zs 0 = idxFrom p (zs.drop kk) kk))
  case atStart => exact ⟨0, Nat.zero_le _, by omega, rfl, Below.refl _ w, rfl⟩
  case round =>
    obtain ⟨kk, hkk, hg, rfl, BW, A⟩ := hrel
    by_cases hlt : kk < n
    · have hltz : (kk : Int) < (n : Int) := by omega
      obtain ⟨rfl, hb⟩ := ha (by omega)
      have hlt' : kk < zs.length := by have := HN.out; omega
      have hcc : ∀ i u, (encInt zs[kk]!)[i]? = some u → wr.cell? ⟨b, off + kk * 1 + i, none⟩ = some u := fun i u hu => by
        rw [(HB.out _ BW.out).cell (p := ⟨b, off + kk * 1 + i, none⟩) hb]; exact hc kk hlt i u hu
      have hcall := hp kk hlt' wr BW.out
      have R : Aside (idxFrom p (zs.drop kk) kk = if p zs[kk]! then (kk : Int) else idxFrom p (zs.drop (kk + 1)) ((kk + 1 : Nat) : Int)) := idxFrom_drop p zs kk hlt'
      clear hc hp ha
      generalize hy : zs[kk]! = y at hcc hcall R
      clear hy hlt'
      have hl := hcc 0 _ rfl
      rw [Nat.mul_one, Nat.add_zero] at hl
      clear hcc
      simp only [val_int] at hcall
      cases hq : p y with
      | true =>
        rw [hq] at hcall
        go_wp2_with (go_at_fn g; refine hcall.mono ?_; rintro e w' ⟨rfl, hb'⟩)
        go_ret
        refine ⟨?_, BW.out.trans (hb'.mono BW.out.size)⟩
        rw [A.out, R.out, hq]
        rfl
      | false =>
        rw [hq] at hcall
        go_wp2_with (go_at_fn g; refine hcall.mono ?_; rintro e w' ⟨rfl, hb'⟩)
        go_roundg (n - (kk + 1))
        case measure => omega
        case rel =>
          refine ⟨kk + 1, by omega, by omega, by go_num, BW.out.trans (hb'.mono BW.out.size), ?_⟩
          show _ = _
          rw [A.out, R.out, hq]
          rfl
    · have hltz : ¬ (kk : Int) < (n : Int) := by omega
      have : kk = n := by omega
      subst this
      go_wp2
      go_ret
      refine ⟨?_, BW.out⟩
      rw [A.out, HN.out]
      simp [idxFrom]

set_option maxHeartbeats 400000 in
theorem contains_int (zs : List Int) (p : Int → Bool) (g : Nat) (lb : Array Value) (eg : ∀ args w, (callFunc g args).run Tryd.prog w = .ok (.enter g args) w)
   (a : Option Addr) (n c : Nat) (w : World) (B : Nat) (hB : B ≤ w.heap.size) (hR : Rd encInt 1 w B a n zs) (hp : PredOn Tryd.prog val_int g lb p zs w) :
    Calls Tryd.prog 88 #[.slice a n c, .func (.func g) #[] lb] w fun e w' =>
      e = .returned (.bool (zs.any p)) ∧ Below w.heap.size w w' := by
  rw [← idxFrom_ge p zs 0 (by omega)]
  have H := Lib.hid (index_int zs p g lb eg a n c w B hB hR hp)
  clear hR hp
  go_enter Tryd.func88, Tryd.ntmps88
  go_wp2_with (go_at_call 123; refine H.out.mono ?_; rintro e w' ⟨rfl, hb'⟩)
  all_goals
    go_ret
    exact ⟨rfl, hb'⟩

def val_part : (Nat × PS) → Value := fun b : Nat × PS => Value.pointer (some ⟨b.1, 0, none⟩)
set_option maxHeartbeats 400000 in
theorem index_part (zs : List (Nat × PS)) (p : (Nat × PS) → Bool) (g : Nat) (lb : Array Value) (eg : ∀ args w, (callFunc g args).run Tryd.prog w = .ok (.enter g args) w)
   (a : Option Addr) (n c : Nat) (w : World) (B : Nat) (hB : B ≤ w.heap.size) (hR : Rd encPtr 1 w B a n zs) (hp : PredOn Tryd.prog val_part g lb p zs w) :
    Calls Tryd.prog 128 #[.slice a n c, .func (.func g) #[] lb] w fun e w' =>
      e = .returned (.int .i64 (idxFrom p zs 0)) ∧ Below w.heap.size w w' := by
  have hbig := hR.big
  obtain ⟨b, off, ha, hc⟩ := hR.ex
  have HN := Lib.hid hR.len
  have HB : Aside (∀ W, Below w.heap.size w W → Below B w W) := fun W hW => hW.mono hB
  clear hR hB
  go_enter Tryd.func128, Tryd.ntmps128
  go_wp2
  go_loopg [5, 8] n (fun gg _ s8 wr => ∃ kk : Nat, kk ≤ n ∧ n - kk ≤ gg ∧ s8 = .int .i64 kk ∧ Aside (Below w.heap.size w wr) ∧ Aside (idxFrom p zs 0 = idxFrom p (zs.drop kk) kk))
  case atStart => exact ⟨0, Nat.zero_le _, by omega, rfl, Below.refl _ w, rfl⟩
  case round =>
    obtain ⟨kk, hkk, hg, rfl, BW, A⟩ := hrel
    by_cases hlt : kk < n
    · have hltz : (kk : Int) < (n : Int) := by omega
      obtain ⟨rfl, hb⟩ := ha (by omega)
      have hlt' : kk < zs.length := by have := HN.out; omega
      have hcc : ∀ i u, (encPtr zs[kk]!)[i]? = some u → wr.cell? ⟨b, off + kk * 1 + i, none⟩ = some u := fun i u hu => by
        rw [(HB.out _ BW.out).cell (p := ⟨b, off + kk * 1 + i, none⟩) hb]; exact hc kk hlt i u hu
      have hcall := hp kk hlt' wr BW.out
      have R : Aside (idxFrom p (zs.drop kk) kk = if p zs[kk]! then (kk : Int) else idxFrom p (zs.drop (kk + 1)) ((kk + 1 : Nat) : Int)) := idxFrom_drop p zs kk hlt'
      clear hc hp ha
      generalize hy : zs[kk]! = y at hcc hcall R
      clear hy hlt'
      have hl := hcc 0 _ rfl
      rw [Nat.mul_one, Nat.add_zero] at hl
      clear hcc
      simp only [val_part] at hcall
      cases hq : p y with
      | true =>
        rw [hq] at hcall
        go_wp2_with (go_at_fn g; refine hcall.mono ?_; rintro e w' ⟨rfl, hb'⟩)
        go_ret
        refine ⟨?_, BW.out.trans (hb'.mono BW.out.size)⟩
        rw [A.out, R.out, hq]
        rfl
      | false =>
        rw [hq] at hcall
        go_wp2_with (go_at_fn g; refine hcall.mono ?_; rintro e w' ⟨rfl, hb'⟩)
        go_roundg (n - (kk + 1))
        case measure => omega
        case rel =>
          refine ⟨kk + 1, by omega, by omega, by go_num, BW.out.trans (hb'.mono BW.out.size), ?_⟩
          show _ = _
          rw [A.out, R.out, hq]
          rfl
    · have hltz : ¬ (kk : Int) < (n : Int) := by omega
      have : kk = n := by omega
      subst this
      go_wp2
      go_ret
      refine ⟨?_, BW.out⟩
      rw [A.out, HN.out]
      simp [idxFrom]

def val_pair : (Int × Int) → Value := fun p : Int × Int => Value.agg #[.int .i64 p.1, .int .i64 p.2]
set_option maxHeartbeats 400000 in
theorem index_pair (zs : List (Int × Int)) (p : (Int × Int) → Bool) (g : Nat) (lb : Array Value) (eg : ∀ args w, (callFunc g args).run Tryd.prog w = .ok (.enter g args) w)
   (a : Option Addr) (n c : Nat) (w : World) (B : Nat) (hB : B ≤ w.heap.size) (hR : Rd encPair 2 w B a n zs) (hp : PredOn Tryd.prog val_pair g lb p zs w) :
    Calls Tryd.prog 127 #[.slice a n c, .func (.func g) #[] lb] w fun e w' =>
      e = .returned (.int .i64 (idxFrom p zs 0)) ∧ Below w.heap.size w w' := by
  have hbig := hR.big
  obtain ⟨b, off, ha, hc⟩ := hR.ex
  have HN := Lib.hid hR.len
  have HB : Aside (∀ W, Below w.heap.size w W → Below B w W) := fun W hW => hW.mono hB
  clear hR hB
  go_enter Tryd.func127, Tryd.ntmps127
  go_wp2
  go_loopg [5, 8] n (fun gg _ s8 wr => ∃ kk : Nat, kk ≤ n ∧ n - kk ≤ gg ∧ s8 = .int .i64 kk ∧ Aside (Below w.heap.size w wr) ∧ Aside (idxFrom p zs 0 = idxFrom p (zs.drop kk) kk))
  case atStart => exact ⟨0, Nat.zero_le _, by omega, rfl, Below.refl _ w, rfl⟩
  case round =>
    obtain ⟨kk, hkk, hg, rfl, BW, A⟩ := hrel
    by_cases hlt : kk < n
    · have hltz : (kk : Int) < (n : Int) := by omega
      obtain ⟨rfl, hb⟩ := ha (by omega)
      have hlt' : kk < zs.length := by have := HN.out; omega
      have hcc : ∀ i u, (encPair zs[kk]!)[i]? = some u → wr.cell? ⟨b, off + kk * 2 + i, none⟩ = some u := fun i u hu => by
        rw [(HB.out _ BW.out).cell (p := ⟨b, off + kk * 2 + i, none⟩) hb]; exact hc kk hlt i u hu
      have hcall := hp kk hlt' wr BW.out
      have R : Aside (idxFrom p (zs.drop kk) kk = if p zs[kk]! then (kk : Int) else idxFrom p (zs.drop (kk + 1)) ((kk + 1 : Nat) : Int)) := idxFrom_drop p zs kk hlt'
      clear hc hp ha
      generalize hy : zs[kk]! = y at hcc hcall R
      clear hy hlt'
      have hl0 := hcc 0 _ rfl
      have hl1 := hcc 1 _ rfl
      rw [Nat.add_zero] at hl0
      clear hcc
      simp only [val_pair] at hcall
      cases hq : p y with
      | true =>
        rw [hq] at hcall
        go_wp2_with (go_at_fn g; refine hcall.mono ?_; rintro e w' ⟨rfl, hb'⟩)
        go_ret
        refine ⟨?_, BW.out.trans (hb'.mono BW.out.size)⟩
        rw [A.out, R.out, hq]
        rfl
      | false =>
        rw [hq] at hcall
        go_wp2_with (go_at_fn g; refine hcall.mono ?_; rintro e w' ⟨rfl, hb'⟩)
        go_roundg (n - (kk + 1))
        case measure => omega
        case rel =>
          refine ⟨kk + 1, by omega, by omega, by go_num, BW.out.trans (hb'.mono BW.out.size), ?_⟩
          show _ = _
          rw [A.out, R.out, hq]
          rfl
    · have hltz : ¬ (kk : Int) < (n : Int) := by omega
      have : kk = n := by omega
      subst this
      go_wp2
      go_ret
      refine ⟨?_, BW.out⟩
      rw [A.out, HN.out]
      simp [idxFrom]

set_option maxHeartbeats 400000 in
theorem contains_pair (zs : List (Int × Int)) (p : (Int × Int) → Bool) (g : Nat) (lb : Array Value) (eg : ∀ args w, (callFunc g args).run Tryd.prog w = .ok (.enter g args) w)
   (a : Option Addr) (n c : Nat) (w : World) (B : Nat) (hB : B ≤ w.heap.size) (hR : Rd encPair 2 w B a n zs) (hp : PredOn Tryd.prog val_pair g lb p zs w) :
    Calls Tryd.prog 103 #[.slice a n c, .func (.func g) #[] lb] w fun e w' =>
      e = .returned (.bool (zs.any p)) ∧ Below w.heap.size w w' := by
  rw [← idxFrom_ge p zs 0 (by omega)]
  have H := Lib.hid (index_pair zs p g lb eg a n c w B hB hR hp)
  clear hR hp
  go_enter Tryd.func103, Tryd.ntmps103
  go_wp2_with (go_at_call 127; refine H.out.mono ?_; rintro e w' ⟨rfl, hb'⟩)
  all_goals
    go_ret
    exact ⟨rfl, hb'⟩

def val_kind : KindR → Value := fun k : KindR => Value.agg #[.int .i64 k.hours, .int .i64 k.cycles, .int .i64 k.places]
set_option maxHeartbeats 400000 in
theorem index_kind (zs : List KindR) (p : KindR → Bool) (g : Nat) (lb : Array Value) (eg : ∀ args w, (callFunc g args).run Tryd.prog w = .ok (.enter g args) w)
   (a : Option Addr) (n c : Nat) (w : World) (B : Nat) (hB : B ≤ w.heap.size) (hR : Rd encKind 3 w B a n zs) (hp : PredOn Tryd.prog val_kind g lb p zs w) :
    Calls Tryd.prog 162 #[.slice a n c, .func (.func g) #[] lb] w fun e w' =>
      e = .returned (.int .i64 (idxFrom p zs 0)) ∧ Below w.heap.size w w' := by
  have hbig := hR.big
  obtain ⟨b, off, ha, hc⟩ := hR.ex
  have HN := Lib.hid hR.len
  have HB : Aside (∀ W, Below w.heap.size w W → Below B w W) := fun W hW => hW.mono hB
  clear hR hB
  go_enter Tryd.func162, Tryd.ntmps162
  go_wp2
  go_loopg [5, 8] n (fun gg _ s8 wr => ∃ kk : Nat, kk ≤ n ∧ n - kk ≤ gg ∧ s8 = .int .i64 kk ∧ Aside (Below w.heap.size w wr) ∧ Aside (idxFrom p zs 0 = idxFrom p (zs.drop kk) kk))
  case atStart => exact ⟨0, Nat.zero_le _, by omega, rfl, Below.refl _ w, rfl⟩
  case round =>
    obtain ⟨kk, hkk, hg, rfl, BW, A⟩ := hrel
    by_cases hlt : kk < n
    · have hltz : (kk : Int) < (n : Int) := by omega
      obtain ⟨rfl, hb⟩ := ha (by omega)
      have hlt' : kk < zs.length := by have := HN.out; omega
      have hcc : ∀ i u, (encKind zs[kk]!)[i]? = some u → wr.cell? ⟨b, off + kk * 3 + i, none⟩ = some u := fun i u hu => by
        rw [(HB.out _ BW.out).cell (p := ⟨b, off + kk * 3 + i, none⟩) hb]; exact hc kk hlt i u hu
      have hcall := hp kk hlt' wr BW.out
      have R : Aside (idxFrom p (zs.drop kk) kk = if p zs[kk]! then (kk : Int) else idxFrom p (zs.drop (kk + 1)) ((kk + 1 : Nat) : Int)) := idxFrom_drop p zs kk hlt'
      clear hc hp ha
      generalize hy : zs[kk]! = y at hcc hcall R
      clear hy hlt'
      have hl0 := hcc 0 _ rfl
      have hl1 := hcc 1 _ rfl
      have hl2 := hcc 2 _ rfl
      rw [Nat.add_zero] at hl0
      clear hcc
      simp only [val_kind] at hcall
      cases hq : p y with
      | true =>
        rw [hq] at hcall
        go_wp2_with (go_at_fn g; refine hcall.mono ?_; rintro e w' ⟨rfl, hb'⟩)
        go_ret
        refine ⟨?_, BW.out.trans (hb'.mono BW.out.size)⟩
        rw [A.out, R.out, hq]
        rfl
      | false =>
        rw [hq] at hcall
        go_wp2_with (go_at_fn g; refine hcall.mono ?_; rintro e w' ⟨rfl, hb'⟩)
        go_roundg (n - (kk + 1))
        case measure => omega
        case rel =>
          refine ⟨kk + 1, by omega, by omega, by go_num, BW.out.trans (hb'.mono BW.out.size), ?_⟩
          show _ = _
          rw [A.out, R.out, hq]
          rfl
    · have hltz : ¬ (kk : Int) < (n : Int) := by omega
      have : kk = n := by omega
      subst this
      go_wp2
      go_ret
      refine ⟨?_, BW.out⟩
      rw [A.out, HN.out]
      simp [idxFrom]

set_option maxHeartbeats 400000 in
theorem contains_kind (zs : List KindR) (p : KindR → Bool) (g : Nat) (lb : Array Value) (eg : ∀ args w, (callFunc g args).run Tryd.prog w = .ok (.enter g args) w)
   (a : Option Addr) (n c : Nat) (w : World) (B : Nat) (hB : B ≤ w.heap.size) (hR : Rd encKind 3 w B a n zs) (hp : PredOn Tryd.prog val_kind g lb p zs w) :
    Calls Tryd.prog 137 #[.slice a n c, .func (.func g) #[] lb] w fun e w' =>
      e = .returned (.bool (zs.any p)) ∧ Below w.heap.size w w' := by
  rw [← idxFrom_ge p zs 0 (by omega)]
  have H := Lib.hid (index_kind zs p g lb eg a n c w B hB hR hp)
  clear hR hp
  go_enter Tryd.func137, Tryd.ntmps137
  go_wp2_with (go_at_call 162; refine H.out.mono ?_; rintro e w' ⟨rfl, hb'⟩)
  all_goals
    go_ret
    exact ⟨rfl, hb'⟩

def val_partR : PartR → Value := fun p : PartR => Value.agg #[.int .i64 p.kind, .int .i64 p.hours, .int .i64 p.cycles, .bool p.known]
set_option maxHeartbeats 400000 in
theorem index_partR (zs : List PartR) (p : PartR → Bool) (g : Nat) (lb : Array Value) (eg : ∀ args w, (callFunc g args).run Tryd.prog w = .ok (.enter g args) w)
   (a : Option Addr) (n c : Nat) (w : World) (B : Nat) (hB : B ≤ w.heap.size) (hR : Rd encPart 4 w B a n zs) (hp : PredOn Tryd.prog val_partR g lb p zs w) :
    Calls Tryd.prog 163 #[.slice a n c, .func (.func g) #[] lb] w fun e w' =>
      e = .returned (.int .i64 (idxFrom p zs 0)) ∧ Below w.heap.size w w' := by
  have hbig := hR.big
  obtain ⟨b, off, ha, hc⟩ := hR.ex
  have HN := Lib.hid hR.len
  have HB : Aside (∀ W, Below w.heap.size w W → Below B w W) := fun W hW => hW.mono hB
  clear hR hB
  go_enter Tryd.func163, Tryd.ntmps163
  go_wp2
  go_loopg [5, 8] n (fun gg _ s8 wr => ∃ kk : Nat, kk ≤ n ∧ n - kk ≤ gg ∧ s8 = .int .i64 kk ∧ Aside (Below w.heap.size w wr) ∧ Aside (idxFrom p zs 0 = idxFrom p (zs.drop kk) kk))
  case atStart => exact ⟨0, Nat.zero_le _, by omega, rfl, Below.refl _ w, rfl⟩
  case round =>
    obtain ⟨kk, hkk, hg, rfl, BW, A⟩ := hrel
    by_cases hlt : kk < n
    · have hltz : (kk : Int) < (n : Int) := by omega
      obtain ⟨rfl, hb⟩ := ha (by omega)
      have hlt' : kk < zs.length := by have := HN.out; omega
      have hcc : ∀ i u, (encPart zs[kk]!)[i]? = some u → wr.cell? ⟨b, off + kk * 4 + i, none⟩ = some u := fun i u hu => by
        rw [(HB.out _ BW.out).cell (p := ⟨b, off + kk * 4 + i, none⟩) hb]; exact hc kk hlt i u hu
      have hcall := hp kk hlt' wr BW.out
      have R : Aside (idxFrom p (zs.drop kk) kk = if p zs[kk]! then (kk : Int) else idxFrom p (zs.drop (kk + 1)) ((kk + 1 : Nat) : Int)) := idxFrom_drop p zs kk hlt'
      clear hc hp ha
      generalize hy : zs[kk]! = y at hcc hcall R
      clear hy hlt'
      have hl0 := hcc 0 _ rfl
      have hl1 := hcc 1 _ rfl
      have hl2 := hcc 2 _ rfl
      have hl3 := hcc 3 _ rfl
      rw [Nat.add_zero] at hl0
      clear hcc
      simp only [val_partR] at hcall
      cases hq : p y with
      | true =>
        rw [hq] at hcall
        go_wp2_with (go_at_fn g; refine hcall.mono ?_; rintro e w' ⟨rfl, hb'⟩)
        go_ret
        refine ⟨?_, BW.out.trans (hb'.mono BW.out.size)⟩
        rw [A.out, R.out, hq]
        rfl
      | false =>
        rw [hq] at hcall
        go_wp2_with (go_at_fn g; refine hcall.mono ?_; rintro e w' ⟨rfl, hb'⟩)
        go_roundg (n - (kk + 1))
        case measure => omega
        case rel =>
          refine ⟨kk + 1, by omega, by omega, by go_num, BW.out.trans (hb'.mono BW.out.size), ?_⟩
          show _ = _
          rw [A.out, R.out, hq]
          rfl
    · have hltz : ¬ (kk : Int) < (n : Int) := by omega
      have : kk = n := by omega
      subst this
      go_wp2
      go_ret
      refine ⟨?_, BW.out⟩
      rw [A.out, HN.out]
      simp [idxFrom]

set_option maxHeartbeats 400000 in
theorem contains_partR (zs : List PartR) (p : PartR → Bool) (g : Nat) (lb : Array Value) (eg : ∀ args w, (callFunc g args).run Tryd.prog w = .ok (.enter g args) w)
   (a : Option Addr) (n c : Nat) (w : World) (B : Nat) (hB : B ≤ w.heap.size) (hR : Rd encPart 4 w B a n zs) (hp : PredOn Tryd.prog val_partR g lb p zs w) :
    Calls Tryd.prog 139 #[.slice a n c, .func (.func g) #[] lb] w fun e w' =>
      e = .returned (.bool (zs.any p)) ∧ Below w.heap.size w w' := by
  rw [← idxFrom_ge p zs 0 (by omega)]
  have H := Lib.hid (index_partR zs p g lb eg a n c w B hB hR hp)
  clear hR hp
  go_enter Tryd.func139, Tryd.ntmps139
  go_wp2_with (go_at_call 163; refine H.out.mono ?_; rintro e w' ⟨rfl, hb'⟩)
  all_goals
    go_ret
    exact ⟨rfl, hb'⟩

def val_order : OrderR → Value := fun o : OrderR => Value.agg #[.int .i64 o.kind, .int .i64 o.within]
set_option maxHeartbeats 400000 in
theorem index_order (zs : List OrderR) (p : OrderR → Bool) (g : Nat) (lb : Array Value) (eg : ∀ args w, (callFunc g args).run Tryd.prog w = .ok (.enter g args) w)
   (a : Option Addr) (n c : Nat) (w : World) (B : Nat) (hB : B ≤ w.heap.size) (hR : Rd encOrder 2 w B a n zs) (hp : PredOn Tryd.prog val_order g lb p zs w) :
    Calls Tryd.prog 164 #[.slice a n c, .func (.func g) #[] lb] w fun e w' =>
      e = .returned (.int .i64 (idxFrom p zs 0)) ∧ Below w.heap.size w w' := by
  have hbig := hR.big
  obtain ⟨b, off, ha, hc⟩ := hR.ex
  have HN := Lib.hid hR.len
  have HB : Aside (∀ W, Below w.heap.size w W → Below B w W) := fun W hW => hW.mono hB
  clear hR hB
  go_enter Tryd.func164, Tryd.ntmps164
  go_wp2
  go_loopg [5, 8] n (fun gg _ s8 wr => ∃ kk : Nat, kk ≤ n ∧ n - kk ≤ gg ∧ s8 = .int .i64 kk ∧ Aside (Below w.heap.size w wr) ∧ Aside (idxFrom p zs 0 = idxFrom p (zs.drop kk) kk))
  case atStart => exact ⟨0, Nat.zero_le _, by omega, rfl, Below.refl _ w, rfl⟩
  case round =>
    obtain ⟨kk, hkk, hg, rfl, BW, A⟩ := hrel
    by_cases hlt : kk < n
    · have hltz : (kk : Int) < (n : Int) := by omega
      obtain ⟨rfl, hb⟩ := ha (by omega)
      have hlt' : kk < zs.length := by have := HN.out; omega
      have hcc : ∀ i u, (encOrder zs[kk]!)[i]? = some u → wr.cell? ⟨b, off + kk * 2 + i, none⟩ = some u := fun i u hu => by
        rw [(HB.out _ BW.out).cell (p := ⟨b, off + kk * 2 + i, none⟩) hb]; exact hc kk hlt i u hu
      have hcall := hp kk hlt' wr BW.out
      have R : Aside (idxFrom p (zs.drop kk) kk = if p zs[kk]! then (kk : Int) else idxFrom p (zs.drop (kk + 1)) ((kk + 1 : Nat) : Int)) := idxFrom_drop p zs kk hlt'
      clear hc hp ha
      generalize hy : zs[kk]! = y at hcc hcall R
      clear hy hlt'
      have hl0 := hcc 0 _ rfl
      have hl1 := hcc 1 _ rfl
      rw [Nat.add_zero] at hl0
      clear hcc
      simp only [val_order] at hcall
      cases hq : p y with
      | true =>
        rw [hq] at hcall
        go_wp2_with (go_at_fn g; refine hcall.mono ?_; rintro e w' ⟨rfl, hb'⟩)
        go_ret
        refine ⟨?_, BW.out.trans (hb'.mono BW.out.size)⟩
        rw [A.out, R.out, hq]
        rfl
      | false =>
        rw [hq] at hcall
        go_wp2_with (go_at_fn g; refine hcall.mono ?_; rintro e w' ⟨rfl, hb'⟩)
        go_roundg (n - (kk + 1))
        case measure => omega
        case rel =>
          refine ⟨kk + 1, by omega, by omega, by go_num, BW.out.trans (hb'.mono BW.out.size), ?_⟩
          show _ = _
          rw [A.out, R.out, hq]
          rfl
    · have hltz : ¬ (kk : Int) < (n : Int) := by omega
      have : kk = n := by omega
      subst this
      go_wp2
      go_ret
      refine ⟨?_, BW.out⟩
      rw [A.out, HN.out]
      simp [idxFrom]

set_option maxHeartbeats 400000 in
theorem contains_order (zs : List OrderR) (p : OrderR → Bool) (g : Nat) (lb : Array Value) (eg : ∀ args w, (callFunc g args).run Tryd.prog w = .ok (.enter g args) w)
   (a : Option Addr) (n c : Nat) (w : World) (B : Nat) (hB : B ≤ w.heap.size) (hR : Rd encOrder 2 w B a n zs) (hp : PredOn Tryd.prog val_order g lb p zs w) :
    Calls Tryd.prog 141 #[.slice a n c, .func (.func g) #[] lb] w fun e w' =>
      e = .returned (.bool (zs.any p)) ∧ Below w.heap.size w w' := by
  rw [← idxFrom_ge p zs 0 (by omega)]
  have H := Lib.hid (index_order zs p g lb eg a n c w B hB hR hp)
  clear hR hp
  go_enter Tryd.func141, Tryd.ntmps141
  go_wp2_with (go_at_call 164; refine H.out.mono ?_; rintro e w' ⟨rfl, hb'⟩)
  all_goals
    go_ret
    exact ⟨rfl, hb'⟩

def val_span : SpanR → Value := fun o : SpanR => Value.agg #[.int .i64 o.low, .int .i64 o.high]
set_option maxHeartbeats 400000 in
theorem index_span (zs : List SpanR) (p : SpanR → Bool) (g : Nat) (lb : Array Value) (eg : ∀ args w, (callFunc g args).run Tryd.prog w = .ok (.enter g args) w)
   (a : Option Addr) (n c : Nat) (w : World) (B : Nat) (hB : B ≤ w.heap.size) (hR : Rd encSpan 2 w B a n zs) (hp : PredOn Tryd.prog val_span g lb p zs w) :
    Calls Tryd.prog 173 #[.slice a n c, .func (.func g) #[] lb] w fun e w' =>
      e = .returned (.int .i64 (idxFrom p zs 0)) ∧ Below w.heap.size w w' := by
  have hbig := hR.big
  obtain ⟨b, off, ha, hc⟩ := hR.ex
  have HN := Lib.hid hR.len
  have HB : Aside (∀ W, Below w.heap.size w W → Below B w W) := fun W hW => hW.mono hB
  clear hR hB
  go_enter Tryd.func173, Tryd.ntmps173
  go_wp2
  go_loopg [5, 8] n (fun gg _ s8 wr => ∃ kk : Nat, kk ≤ n ∧ n - kk ≤ gg ∧ s8 = .int .i64 kk ∧ Aside (Below w.heap.size w wr) ∧ Aside (idxFrom p zs 0 = idxFrom p (zs.drop kk) kk))
  case atStart => exact ⟨0, Nat.zero_le _, by omega, rfl, Below.refl _ w, rfl⟩
  case round =>
    obtain ⟨kk, hkk, hg, rfl, BW, A⟩ := hrel
    by_cases hlt : kk < n
    · have hltz : (kk : Int) < (n : Int) := by omega
      obtain ⟨rfl, hb⟩ := ha (by omega)
      have hlt' : kk < zs.length := by have := HN.out; omega
      have hcc : ∀ i u, (encSpan zs[kk]!)[i]? = some u → wr.cell? ⟨b, off + kk * 2 + i, none⟩ = some u := fun i u hu => by
        rw [(HB.out _ BW.out).cell (p := ⟨b, off + kk * 2 + i, none⟩) hb]; exact hc kk hlt i u hu
      have hcall := hp kk hlt' wr BW.out
      have R : Aside (idxFrom p (zs.drop kk) kk = if p zs[kk]! then (kk : Int) else idxFrom p (zs.drop (kk + 1)) ((kk + 1 : Nat) : Int)) := idxFrom_drop p zs kk hlt'
      clear hc hp ha
      generalize hy : zs[kk]! = y at hcc hcall R
      clear hy hlt'
      have hl0 := hcc 0 _ rfl
      have hl1 := hcc 1 _ rfl
      rw [Nat.add_zero] at hl0
      clear hcc
      simp only [val_span] at hcall
      cases hq : p y with
      | true =>
        rw [hq] at hcall
        go_wp2_with (go_at_fn g; refine hcall.mono ?_; rintro e w' ⟨rfl, hb'⟩)
        go_ret
        refine ⟨?_, BW.out.trans (hb'.mono BW.out.size)⟩
        rw [A.out, R.out, hq]
        rfl
      | false =>
        rw [hq] at hcall
        go_wp2_with (go_at_fn g; refine hcall.mono ?_; rintro e w' ⟨rfl, hb'⟩)
        go_roundg (n - (kk + 1))
        case measure => omega
        case rel =>
          refine ⟨kk + 1, by omega, by omega, by go_num, BW.out.trans (hb'.mono BW.out.size), ?_⟩
          show _ = _
          rw [A.out, R.out, hq]
          rfl
    · have hltz : ¬ (kk : Int) < (n : Int) := by omega
      have : kk = n := by omega
      subst this
      go_wp2
      go_ret
      refine ⟨?_, BW.out⟩
      rw [A.out, HN.out]
      simp [idxFrom]

set_option maxHeartbeats 400000 in
theorem contains_span (zs : List SpanR) (p : SpanR → Bool) (g : Nat) (lb : Array Value) (eg : ∀ args w, (callFunc g args).run Tryd.prog w = .ok (.enter g args) w)
   (a : Option Addr) (n c : Nat) (w : World) (B : Nat) (hB : B ≤ w.heap.size) (hR : Rd encSpan 2 w B a n zs) (hp : PredOn Tryd.prog val_span g lb p zs w) :
    Calls Tryd.prog 165 #[.slice a n c, .func (.func g) #[] lb] w fun e w' =>
      e = .returned (.bool (zs.any p)) ∧ Below w.heap.size w w' := by
  rw [← idxFrom_ge p zs 0 (by omega)]
  have H := Lib.hid (index_span zs p g lb eg a n c w B hB hR hp)
  clear hR hp
  go_enter Tryd.func165, Tryd.ntmps165
  go_wp2_with (go_at_call 173; refine H.out.mono ?_; rintro e w' ⟨rfl, hb'⟩)
  all_goals
    go_ret
    exact ⟨rfl, hb'⟩

end Go.Proofs.YtchnhjffpldpiaaDoor
