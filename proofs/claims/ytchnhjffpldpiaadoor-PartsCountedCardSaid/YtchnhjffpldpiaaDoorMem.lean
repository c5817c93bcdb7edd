/- How a hangar lies in memory. No walk. -/
import Derived.Test.YtchnhjffpldpiaaDoorPure
import Derived.Test.YtchnhjffpldpiaaDoorIdx
import Derived.Test.YtchnhjffpldpiaaDoorValid
namespace Go.Proofs.YtchnhjffpldpiaaDoor
open Go.RowKit

/-- Where a hangar's blocks lie. -/
structure HL where
  ka : Option Addr
  kc : Nat
  pa : Option Addr
  pc : Nat
  oa : Option Addr
  oc : Nat
  hb : Nat
  pr : Nat
  pcap : Nat
  pspare : List Value
  ib : Nat
  fb : Nat
  hr : Nat
  pb : Nat → Nat
  sb : Nat → Nat
  cb : Nat → Nat
  gb : Nat → Nat
  gcap : Nat → Nat
  gspare : Nat → List Value

inductive Slot where
  | h | pr | ib | fb | hr
  | part (i : Nat) | since (i : Nat) | chk (i : Nat) | hist (i : Nat)
deriving DecidableEq

def HL.blk (L : HL) : Slot → Nat
  | .h => L.hb
  | .pr => L.pr
  | .ib => L.ib
  | .fb => L.fb
  | .hr => L.hr
  | .part i => L.pb i
  | .since i => L.sb i
  | .chk i => L.cb i
  | .hist i => L.gb i

def okSlot (H : HS) : Slot → Prop
  | .h | .ib | .fb | .hr => True
  | .pr => 0 < H.parts.length
  | .part i | .since i | .chk i => i < H.parts.length
  | .hist i => i < H.parts.length ∧ H.hist[i]! ≠ []

/-- A history's slice. -/
def histV (L : HL) (l : List StretchR) (i : Nat) : Value := if l = [] then .slice none 0 0 else .slice (some ⟨L.gb i, 0, none⟩) l.length (L.gcap i)
/-- The slice of the parts. -/
def partsV (L : HL) (np : Nat) : Value := if np = 0 then .slice none 0 0 else .slice (some ⟨L.pr, 0, none⟩) np L.pcap

def partCells (L : HL) (p : PS) (no i : Nat) : List Value :=
  [.int .i64 p.kind, .int .i64 p.hours, .int .i64 p.cycles, .bool p.known, .int .i64 p.im, .int .i64 p.ip, .slice (some ⟨L.sb i, 0, none⟩) no no, .slice (some ⟨L.cb i, 0, none⟩) no no]

def cellsOf (L : HL) (H : HS) : Slot → List Value
  | .h => [.slice L.ka H.reg.kinds.length L.kc, .slice L.pa H.reg.parts.length L.pc, .int .i64 H.reg.machines, .slice L.oa H.reg.orders.length L.oc,
      partsV L H.parts.length, .slice (some ⟨L.ib, 0, none⟩) H.reg.orders.length H.reg.orders.length, .slice (some ⟨L.fb, 0, none⟩) H.flown.length H.flown.length,
      .int .i64 H.works, .slice (some ⟨L.hr, 0, none⟩) H.parts.length H.parts.length]
  | .pr => (List.range H.parts.length).map (fun i => Value.pointer (some ⟨L.pb i, 0, none⟩)) ++ L.pspare
  | .ib => H.issued.map Value.bool
  | .fb => H.flown.flatMap encPair
  | .hr => (List.range H.parts.length).map (fun i => histV L H.hist[i]! i)
  | .part i => partCells L H.parts[i]! H.reg.orders.length i
  | .since i => (H.parts[i]!).since.map (Value.int .i64)
  | .chk i => (H.parts[i]!).chk.map Value.bool
  | .hist i => (H.hist[i]!).flatMap encStretch ++ L.gspare i

def tyOf : Slot → TypeId
  | .h => 132
  | .pr => 112
  | .ib => 4
  | .fb => 113
  | .hr => 57
  | .part _ => 116
  | .since _ => 3
  | .chk _ => 4
  | .hist _ => 61

/-- The lists of a hangar have the lengths that they should. -/
structure HS.Fit (H : HS) : Prop where
  valid : validReg H.reg = true
  parts : H.parts.length = H.reg.parts.length
  issued : H.issued.length = H.reg.orders.length
  flown : (H.flown.length : Int) = H.reg.machines
  hist : H.hist.length = H.parts.length
  since : ∀ i, i < H.parts.length → (H.parts[i]!).since.length = H.reg.orders.length
  chk : ∀ i, i < H.parts.length → (H.parts[i]!).chk.length = H.reg.orders.length
  works0 : 0 ≤ H.works
  works1 : H.works ≤ 200
  kind0 : ∀ i, i < H.parts.length → 0 ≤ (H.parts[i]!).kind ∧ (H.parts[i]!).kind < H.reg.kinds.length
  hours : ∀ i, i < H.parts.length → 0 ≤ (H.parts[i]!).hours ∧ (H.parts[i]!).hours ≤ 100000 + 100 * H.works
  cycles : ∀ i, i < H.parts.length → 0 ≤ (H.parts[i]!).cycles ∧ (H.parts[i]!).cycles ≤ 100000 + 100 * H.works
  sinces : ∀ i j, i < H.parts.length → j < H.reg.orders.length → 0 ≤ (H.parts[i]!).since[j]! ∧ (H.parts[i]!).since[j]! ≤ 100 * H.works
  flowns : ∀ i, i < H.flown.length → 0 ≤ (H.flown[i]!).1 ∧ (H.flown[i]!).1 ≤ 100 * H.works ∧ 0 ≤ (H.flown[i]!).2 ∧ (H.flown[i]!).2 ≤ 100 * H.works
  spot : ∀ i, i < H.parts.length → -2 ≤ (H.parts[i]!).im ∧ (H.parts[i]!).im < H.reg.machines ∧ -2 ≤ (H.parts[i]!).ip ∧ (H.parts[i]!).ip ≤ 4
  /-- what stands in a machine has a stretch that has not ended; its machine and numbers are such as they should be -/
  open' : ∀ i, i < H.parts.length → 0 ≤ (H.parts[i]!).im → H.hist[i]! ≠ []
  hlen : ∀ i, i < H.parts.length → ((H.hist[i]!).length : Int) ≤ H.works
  hok : ∀ i s, i < H.parts.length → s ∈ H.hist[i]! → 0 ≤ s.machine ∧ s.machine < H.reg.machines ∧ 0 ≤ s.hours ∧ s.hours ≤ 20000 ∧ 0 ≤ s.cycles ∧ s.cycles ≤ 20000

/-- The package's two variables. -/
structure Glb (w : World) (B : Nat) : Prop where
  lt : 2 ≤ B
  s0 : w.cell? ⟨1, 0, none⟩ = some (.int .i64 (-1))
  s1 : w.cell? ⟨1, 1, none⟩ = some (.int .i64 (-1))
  c0 : w.cell? ⟨0, 0, none⟩ = some (.int .i64 (-2))
  c1 : w.cell? ⟨0, 1, none⟩ = some (.int .i64 (-2))
theorem Glb.below {w w' : World} {B : Nat} (h : Glb w B) (hb : Below B w w') : Glb w' B :=
  ⟨h.lt, (hb.cell (by have := h.lt; simp only; omega)).trans h.s0, (hb.cell (by have := h.lt; simp only; omega)).trans h.s1, (hb.cell (by have := h.lt; simp only; omega)).trans h.c0, (hb.cell (by have := h.lt; simp only; omega)).trans h.c1⟩
theorem Glb.up {w : World} {B B' : Nat} (h : Glb w B) (hb : B ≤ B') : Glb w B' := ⟨Nat.le_trans h.lt hb, h.s0, h.s1, h.c0, h.c1⟩

/-- The hangar H lies in w as L says; what it writes lies from B on; its register reads below B. -/
structure IsH (w : World) (B : Nat) (L : HL) (H : HS) : Prop where
  glb : Glb w B
  reg : RegRd w B L.ka L.pa L.oa H.reg.kinds.length H.reg.parts.length H.reg.orders.length H.reg
  blocks : ∀ s, okSlot H s → w.heap[L.blk s]? = some (.cells (cellsOf L H s).toArray (tyOf s) (0, 0)) ∧ B ≤ L.blk s
  inj : ∀ s t, okSlot H s → okSlot H t → L.blk s = L.blk t → s = t
  gcap : ∀ i, i < H.parts.length → H.hist[i]! ≠ [] → (H.hist[i]!).length ≤ L.gcap i ∧ L.gcap i ≤ maxLen ∧ (L.gspare i).length = (L.gcap i - (H.hist[i]!).length) * 6
  pcap : 0 < H.parts.length → H.parts.length ≤ L.pcap

theorem cell_blk {w : World} {b : Nat} {c : List Value} {T : TypeId} {f : Nat × Nat} (h : w.heap[b]? = some (.cells c.toArray T f)) (i : Nat) : w.cell? ⟨b, i, none⟩ = c[i]? := by
  simp [World.cell?, h]
theorem frozen_blk {w : World} {b : Nat} {c : List Value} {T : TypeId} (h : w.heap[b]? = some (.cells c.toArray T (0, 0))) (i : Nat) : w.frozen? ⟨b, i, none⟩ = false := by
  simp [World.frozen?, h]
theorem heap_setCell_at {w : World} {b : Nat} {c : List Value} {T : TypeId} {f : Nat × Nat} (h : w.heap[b]? = some (.cells c.toArray T f)) (o : Nat) (v : Value) :
    (w.setCell ⟨b, o, none⟩ v).heap[b]? = some (.cells (c.set o v).toArray T f) := by
  simp [World.setCell, Array.getElem?_modify, h]

variable {w w' : World} {B : Nat} {L : HL} {H : HS}

theorem IsH.lt (h : IsH w B L H) (s : Slot) (hs : okSlot H s) : L.blk s < w.heap.size := (Array.getElem?_eq_some_iff.1 (h.blocks s hs).1).1
theorem IsH.cell (h : IsH w B L H) (s : Slot) (hs : okSlot H s) (i : Nat) : w.cell? ⟨L.blk s, i, none⟩ = (cellsOf L H s)[i]? := cell_blk (h.blocks s hs).1 i
theorem IsH.frozen (h : IsH w B L H) (s : Slot) (hs : okSlot H s) (i : Nat) : w.frozen? ⟨L.blk s, i, none⟩ = false := frozen_blk (h.blocks s hs).1 i

theorem IsH.below (h : IsH w B L H) (hb : Below w.heap.size w w') : IsH w' B L H := by
  have hB : B ≤ w.heap.size := Nat.le_of_lt (Nat.lt_of_le_of_lt (h.blocks .h trivial).2 (h.lt .h trivial))
  exact ⟨h.glb.below (hb.mono hB), h.reg.below (hb.mono hB), fun s hs => ⟨by rw [hb.block _ (h.lt s hs)]; exact (h.blocks s hs).1, (h.blocks s hs).2⟩, h.inj, h.gcap, h.pcap⟩
theorem IsH.base (h : IsH w B L H) : B ≤ w.heap.size := Nat.le_of_lt (Nat.lt_of_le_of_lt (h.blocks .h trivial).2 (h.lt .h trivial))

/-- A store into one of a hangar's blocks. -/
theorem IsH.put (h : IsH w B L H) (s : Slot) (hs : okSlot H s) (o : Nat) (v : Value) {H' : HS} (hreg : H'.reg = H.reg) (hn : H'.parts.length = H.parts.length)
    (hok : ∀ i : Nat, H'.hist[i]! = [] ↔ H.hist[i]! = []) (hs' : cellsOf L H' s = (cellsOf L H s).set o v) (ht : ∀ t, t ≠ s → okSlot H t → cellsOf L H' t = cellsOf L H t)
    (hlen : ∀ i : Nat, (H'.hist[i]!).length = (H.hist[i]!).length) : IsH (w.setCell ⟨L.blk s, o, none⟩ v) B L H' := by
  have okk : ∀ t, okSlot H' t → okSlot H t := by
    intro t ht
    cases t <;> simp only [okSlot, hn] at ht ⊢ <;> first | exact ht | exact ⟨ht.1, fun e => ht.2 ((hok _).2 e)⟩
  have hbel : Below B w (w.setCell ⟨L.blk s, o, none⟩ v) := (Below.refl B w).setCell (p := ⟨L.blk s, o, none⟩) (h.blocks s hs).2 v
  refine ⟨h.glb.below hbel, by rw [hreg]; exact h.reg.below hbel, fun t ht' => ⟨?_, (h.blocks t (okk t ht')).2⟩, fun s t hs ht => h.inj s t (okk s hs) (okk t ht), fun i hi he => ?_, fun hp => by rw [hn]; exact h.pcap (by omega)⟩
  · by_cases e : t = s
    · subst e
      rw [hs']; exact heap_setCell_at (h.blocks t hs).1 o v
    · rw [Below.heap_setCell _ _ _ _ (fun e' => e (h.inj t s (okk t ht') hs e')), ht t e (okk t ht')]
      exact (h.blocks t (okk t ht')).1
  · rw [hlen i]
    exact h.gcap i (by omega) (fun e => he ((hok i).2 e))

end Go.Proofs.YtchnhjffpldpiaaDoor
