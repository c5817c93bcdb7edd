/- Base, Model, Pure, A1, Idx, Valid, Mem. -/
import Derived.WalkKit
import Derived.WalkSpells
import Derived.WalkLawsBesides
import Derived.KernelRfl
import Derived.Lib.Hide
import Derived.Test.YtchnhjffpldpiaaDoorProg
import Derived.Deep.LoopGhost
import Derived.Shelf.Abstract
import Derived.Handy
import Derived.Laws.EntriesVeiled
/- Small general laws: '==' on arrays of two integers; ranges; results. -/
namespace Go.Proofs.YtchnhjffpldpiaaDoor
open Go.RowKit

theorem run_equalIn_arr2 {P : Program} (D t e : TypeId) (k : IntKind) (i : TypeInfo) (ht : P.underlying t = some (.array 2 e)) (he : P.underlying e = some (.int k)) (hi : P.info? e = some i) (hs : i.size = 1)
   (ha : ∀ w, (isAgg e).run P w = .ok false w) (a b c d : Int) (w : World) :
   (Op.equalIn (D+1+1) t (.agg #[.int k a, .int k b]) (.agg #[.int k c, .int k d])).run P w = .ok (a == c && b == d) w := by
  rw [Op.equalIn]
  simp only [Sem.run_bind, run_underlying ht, Result.andThen_ok, sizeOf, typeInfo]
  simp [hi, hs, part, ha, Std.Legacy.Range.forIn_eq_forIn_range', Std.Legacy.Range.size, List.range'_succ, run_equalIn_int _ _ _ _ _ _ _ he, Sem.run_bind]
  by_cases h : a = c
  · subst h
    by_cases h' : b = d
    · subst h'; simp 
    · simp [h']
  · simp [h]
theorem run_eqlIn_arr2 {P : Program} (t e : TypeId) (k : IntKind) (i : TypeInfo) (ht : P.underlying t = some (.array 2 e)) (he : P.underlying e = some (.int k)) (hi : P.info? e = some i) (hs : i.size = 1)
   (ha : ∀ w, (isAgg e).run P w = .ok false w) (a b c d : Int) (w : World) :
   (Op.equalIn 10000 t (.agg #[.int k a, .int k b]) (.agg #[.int k c, .int k d])).run P w = .ok (a == c && b == d) w :=
  run_equalIn_arr2 (P := P) 9998 t e k i ht he hi hs ha a b c d w

/-- Is a number from lo to hi? -/
def inB (n lo hi : Int) : Bool := decide (lo ≤ n) && decide (n ≤ hi)

theorem inB_iff {n lo hi : Int} : inB n lo hi = true ↔ lo ≤ n ∧ n ≤ hi := by simp [inB]
theorem inB_not {n lo hi : Int} : inB n lo hi = false ↔ ¬ (lo ≤ n ∧ n ≤ hi) := by
  rw [← inB_iff]; simp

theorem ret_bool {a b : Bool} (h : a = b) : Ending.returned (.bool a) = .returned (.bool b) := by rw [h]
theorem ret_int {k : IntKind} {a b : Int} (h : a = b) : Ending.returned (.int k a) = .returned (.int k b) := by rw [h]
/-- The world of a call under a name. -/
theorem Calls_named {P : Program} {f : FuncId} {args : Array Value} {w : World} {R : Ending → World → Prop} (h : ∀ W, W = w → Calls P f args W R) : Calls P f args w R := h w rfl
theorem below_refl' {B : Nat} {w w' : World} (h : w' = w) : Below B w w' := by subst h; exact Below.refl _ _

end Go.Proofs.YtchnhjffpldpiaaDoor

/- The data of chapter 09 as Lean data; how a slice in memory reads. No walk. -/
namespace Go.Proofs.YtchnhjffpldpiaaDoor
open Go.RowKit

structure KindR where
  hours : Int
  cycles : Int
  places : Int
deriving Inhabited, DecidableEq
structure PartR where
  kind : Int
  hours : Int
  cycles : Int
  known : Bool
deriving Inhabited, DecidableEq
structure OrderR where
  kind : Int
  within : Int
deriving Inhabited, DecidableEq
structure WorkR where
  kind : Int
  a : Int
  b : Int
  c : Int
deriving Inhabited, DecidableEq
structure SpanR where
  low : Int
  high : Int
deriving Inhabited, DecidableEq
structure StretchR where
  machine : Int
  place : Int
  start : Int
  stop : Int
  hours : Int
  cycles : Int
deriving Inhabited, DecidableEq
structure RegR where
  kinds : List KindR
  parts : List PartR
  machines : Int
  orders : List OrderR
deriving Inhabited, DecidableEq

/-- A part as it stands in the program's hangar. -/
structure PS where
  kind : Int
  hours : Int
  cycles : Int
  known : Bool
  im : Int
  ip : Int
  since : List Int
  chk : List Bool
deriving Inhabited, DecidableEq
/-- The program's hangar. -/
structure HS where
  reg : RegR
  parts : List PS
  issued : List Bool
  flown : List (Int × Int)
  works : Int
  hist : List (List StretchR)
deriving Inhabited, DecidableEq

abbrev iv (n : Int) : Value := .int .i64 n
def encInt (n : Int) : List Value := [.int .i64 n]
def encBool (b : Bool) : List Value := [.bool b]
def encPtr (x : Nat × PS) : List Value := [.pointer (some ⟨x.1, 0, none⟩)]
def encPair (p : Int × Int) : List Value := [.int .i64 p.1, .int .i64 p.2]
def encKind (k : KindR) : List Value := [.int .i64 k.hours, .int .i64 k.cycles, .int .i64 k.places]
def encPart (p : PartR) : List Value := [.int .i64 p.kind, .int .i64 p.hours, .int .i64 p.cycles, .bool p.known]
def encOrder (o : OrderR) : List Value := [.int .i64 o.kind, .int .i64 o.within]
def encWork (x : WorkR) : List Value := [.int .i64 x.kind, .int .i64 x.a, .int .i64 x.b, .int .i64 x.c]
def encSpan (x : SpanR) : List Value := [.int .i64 x.low, .int .i64 x.high]
def encStretch (x : StretchR) : List Value := [.int .i64 x.machine, .int .i64 x.place, .int .i64 x.start, .int .i64 x.stop, .int .i64 x.hours, .int .i64 x.cycles]

/-- A slice (address a, length n) reads as xs: k cells an element; its cells lie in blocks below B. -/
structure Rd {α : Type} [Inhabited α] (enc : α → List Value) (k : Nat) (w : World) (B : Nat) (a : Option Addr) (n : Nat) (xs : List α) : Prop where
  len : n = xs.length
  big : n ≤ 9223372036854775807
  ex : ∃ b off, (0 < n → a = some ⟨b, off, none⟩ ∧ b < B) ∧ ∀ j, j < n → ∀ i u, (enc xs[j]!)[i]? = some u → w.cell? ⟨b, off + j * k + i, none⟩ = some u

theorem Rd.below {α : Type} [Inhabited α] {enc : α → List Value} {k : Nat} {w w' : World} {B : Nat} {a : Option Addr} {n : Nat} {xs : List α}
    (h : Rd enc k w B a n xs) (hb : Below B w w') : Rd enc k w' B a n xs := by
  obtain ⟨b, off, h1, h2⟩ := h.ex
  refine ⟨h.len, h.big, b, off, h1, fun j hj i u hu => ?_⟩
  rw [hb.cell (p := ⟨b, off + j * k + i, none⟩) (h1 (by omega)).2]
  exact h2 j hj i u hu

theorem Rd.up {α : Type} [Inhabited α] {enc : α → List Value} {k : Nat} {w : World} {B B' : Nat} {a : Option Addr} {n : Nat} {xs : List α}
    (h : Rd enc k w B a n xs) (hB : B ≤ B') : Rd enc k w B' a n xs := by
  obtain ⟨b, off, h1, h2⟩ := h.ex
  exact ⟨h.len, h.big, b, off, fun hn => ⟨(h1 hn).1, Nat.lt_of_lt_of_le (h1 hn).2 hB⟩, h2⟩

/-- The index of the first element of which p holds, from k on; -1: there is none. -/
def idxFrom {α : Type} (p : α → Bool) : List α → Int → Int
  | [], _ => -1
  | x :: xs, k => if p x then k else idxFrom p xs (k + 1)

theorem idxFrom_drop {α : Type} [Inhabited α] (p : α → Bool) (zs : List α) (kk : Nat) (h : kk < zs.length) :
    idxFrom p (zs.drop kk) kk = if p zs[kk]! then (kk : Int) else idxFrom p (zs.drop (kk + 1)) ((kk + 1 : Nat) : Int) := by
  rw [List.drop_eq_getElem_cons h, getElem!_pos zs kk h]
  rfl

theorem idxFrom_nonneg {α : Type} (p : α → Bool) (zs : List α) : ∀ (k : Int), 0 ≤ k → (0 ≤ idxFrom p zs k ↔ zs.any p = true) := by
  induction zs with
  | nil => intro k _; simp [idxFrom]
  | cons x xs ih =>
    intro k h0
    have h := ih (k + 1) (by omega)
    unfold idxFrom
    by_cases hx : p x = true
    · simp [hx, h0]
    · rw [if_neg hx, h]; simp [hx]

theorem idxFrom_ge {α : Type} (p : α → Bool) (zs : List α) (k : Int) (h0 : 0 ≤ k) : decide (0 ≤ idxFrom p zs k) = zs.any p := by
  rw [Bool.eq_iff_iff, decide_eq_true_iff]
  exact idxFrom_nonneg p zs k h0

theorem idxFrom_map {α β : Type} (f : α → β) (p : β → Bool) (zs : List α) : ∀ (k : Int), idxFrom (fun x => p (f x)) zs k = idxFrom p (zs.map f) k := by
  induction zs with
  | nil => intro k; rfl
  | cons x xs ih => intro k; simp only [idxFrom, List.map_cons, ih]

/-- What is asked of a predicate over the elements of a slice: it may make memory. -/
def PredOn (P : Program) {α : Type} [Inhabited α] (val : α → Value) (g : Nat) (lb : Array Value) (p : α → Bool) (xs : List α) (w : World) : Prop :=
  ∀ j, j < xs.length → ∀ W, Below w.heap.size w W → Calls P g (#[val xs[j]!] ++ lb) W fun e w' => e = .returned (.bool (p xs[j]!)) ∧ Below W.heap.size W w'

end Go.Proofs.YtchnhjffpldpiaaDoor

/- The program's hangar as plain functions on Lean data. No walk, no memory. -/
namespace Go.Proofs.YtchnhjffpldpiaaDoor
open Go.RowKit

/-- Checks of a register, as the program makes them. -/
def badKind (k : KindR) : Bool := !inB k.hours 1 100000 || !inB k.cycles 1 100000 || !inB k.places 0 4
def badPart (nk : Nat) (p : PartR) : Bool := !inB p.kind 0 ((nk : Int) - 1) || !inB p.hours 0 100000 || !inB p.cycles 0 100000
def badOrder (nk : Nat) (o : OrderR) : Bool := !inB o.kind 0 ((nk : Int) - 1) || !inB o.within 0 100000
def validReg (r : RegR) : Bool :=
  !(decide (6 < (r.kinds.length : Int)) || decide (24 < (r.parts.length : Int)) || decide (6 < (r.orders.length : Int)) || !inB r.machines 0 4) &&
  (!r.kinds.any badKind && !r.parts.any (badPart r.kinds.length) && !r.orders.any (badOrder r.kinds.length))


/-- A new part in the store. -/
def PS.of (no : Nat) (p : PartR) : PS := { kind := p.kind, hours := p.hours, cycles := p.cycles, known := p.known, im := -1, ip := -1, since := List.replicate no 0, chk := List.replicate no false }
def newHS (r : RegR) : HS :=
  { reg := r, parts := r.parts.map (PS.of r.orders.length), issued := List.replicate r.orders.length false, flown := List.replicate r.machines.toNat (0, 0), works := 0, hist := List.replicate r.parts.length [] }

def isAt (kind m pl : Int) (q : PS) : Bool := q.kind == kind && (q.im == m && q.ip == pl)
def HS.at (H : HS) (kind m pl : Int) : Int := idxFrom (isAt kind m pl) H.parts 0
def HS.machine (H : HS) (n : Int) : Bool := inB n 0 (H.reg.machines - 1)
def HS.part (H : HS) (n : Int) : Bool := inB n 0 ((H.parts.length : Int) - 1)
def HS.order (H : HS) (n : Int) : Bool := inB n 0 ((H.reg.orders.length : Int) - 1)

def lacksOf (H : HS) (m : Int) (k : Nat) (n : Nat) : List (Int × Int) :=
  ((List.range n).filter fun (pl : Nat) => decide (H.at k m pl < 0)).map fun (pl : Nat) => ((k : Int), (pl : Int))
def lacksUpTo (H : HS) (m : Int) (k : Nat) : List (Int × Int) := (List.range k).flatMap fun k => lacksOf H m k (H.reg.kinds[k]!).places.toNat
def HS.lacks (H : HS) (m : Int) : List (Int × Int) := lacksUpTo H m H.reg.kinds.length

def leftGo (kind : Int) : List OrderR → List Bool → List Bool → List Int → Int → Int
  | o :: os, b :: bs, c :: cs, s :: ss, h => leftGo kind os bs cs ss (if b && (o.kind == kind && !c) then min h (o.within - s) else h)
  | _, _, _, _, h => h
def HS.left (H : HS) (p : PS) : Int × Int :=
  let k := H.reg.kinds[p.kind.toNat]!
  (leftGo p.kind H.reg.orders H.issued p.chk p.since (k.hours - p.hours), k.cycles - p.cycles)

def longGo (H : HS) (m cyc : Int) : List PS → Int → Int
  | [], most => most
  | p :: ps, most => if p.im = m then (if (H.left p).2 < cyc then -1 else longGo H m cyc ps (min most (H.left p).1)) else longGo H m cyc ps most
def HS.longest (H : HS) (m cyc : Int) : Int := if (H.lacks m).length > 0 then -1 else longGo H m cyc H.parts 100

def flySince (hours : Int) (issued : List Bool) (since : List Int) : List Int := List.zipWith (fun b s => if b then s + hours else s) issued since
def flyPart (H : HS) (m hours cyc : Int) (p : PS) : PS :=
  if p.im = m then { p with hours := p.hours + hours, cycles := p.cycles + cyc, since := flySince hours H.issued p.since } else p
def addFlown (l : List (Int × Int)) (m : Nat) (hours cyc : Int) : List (Int × Int) := l.set m ((l[m]!).1 + hours, (l[m]!).2 + cyc)
def flyGuard (H : HS) (m hours cyc : Int) : Bool := H.machine m && (inB hours 0 100 && (inB cyc 0 100 && decide (hours ≤ H.longest m cyc)))
def HS.fly (H : HS) (m hours cyc : Int) : Option HS :=
  if flyGuard H m hours cyc then some { H with parts := H.parts.map (flyPart H m hours cyc), flown := addFlown H.flown m.toNat hours cyc } else none

def fitGuard (H : HS) (n m pl : Int) : Bool :=
  H.part n && (H.machine m && (let p := H.parts[n.toNat]!
    (p.im == -1 && p.ip == -1) && (p.known && (inB pl 0 ((H.reg.kinds[p.kind.toNat]!).places - 1) && decide (H.at p.kind m pl < 0)))))
def HS.fit (H : HS) (n m pl : Int) : Option HS :=
  if fitGuard H n m pl then
    some { H with
      parts := H.parts.set n.toNat { H.parts[n.toNat]! with im := m, ip := pl }
      hist := H.hist.set n.toNat (H.hist[n.toNat]! ++ [⟨m, pl, H.works, -1, (H.flown[m.toNat]!).1, (H.flown[m.toNat]!).2⟩]) }
  else none

/-- The last stretch of a history ended. -/
def endLast (flown : List (Int × Int)) (to : Int) (l : List StretchR) : List StretchR :=
  let s := l[l.length - 1]!
  l.set (l.length - 1) { s with stop := to, hours := (flown[s.machine.toNat]!).1 - s.hours, cycles := (flown[s.machine.toNat]!).2 - s.cycles }

def checkGuard (H : HS) (n o : Int) : Bool :=
  H.part n && (H.order o && (H.issued[o.toNat]! && (let p := H.parts[n.toNat]!
    p.kind == (H.reg.orders[o.toNat]!).kind && !p.chk[o.toNat]!)))
def HS.check (H : HS) (n o : Int) : Option HS :=
  if checkGuard H n o then some { H with parts := H.parts.set n.toNat { H.parts[n.toNat]! with chk := (H.parts[n.toNat]!).chk.set o.toNat true } } else none

def HS.take (H : HS) (n : Int) : Option HS :=
  if H.part n && decide (0 ≤ (H.parts[n.toNat]!).im) then
    some { H with
      parts := H.parts.set n.toNat { H.parts[n.toNat]! with im := -1, ip := -1 }
      hist := H.hist.set n.toNat (endLast H.flown H.works H.hist[n.toNat]!) }
  else none
def HS.issue (H : HS) (o : Int) : Option HS :=
  if H.order o && !H.issued[o.toNat]! then some { H with issued := H.issued.set o.toNat true } else none
def HS.scrap (H : HS) (n : Int) : Option HS :=
  if H.part n && ((H.parts[n.toNat]!).im == -1 && (H.parts[n.toNat]!).ip == -1) then some { H with parts := H.parts.set n.toNat { H.parts[n.toNat]! with im := -2, ip := -2 } } else none

def HS.doWork (H : HS) (x : WorkR) : Option HS :=
  if x.kind = 1 then H.fly x.a x.b x.c
  else if x.kind = 2 then H.fit x.a x.b x.c
  else if x.kind = 5 then (if x.c = 0 then H.check x.a x.b else none)
  else if x.kind = 3 then (if x.b = 0 ∧ x.c = 0 then H.take x.a else none)
  else if x.kind = 4 then (if x.b = 0 ∧ x.c = 0 then H.issue x.a else none)
  else if x.kind = 6 then (if x.b = 0 ∧ x.c = 0 then H.scrap x.a else none)
  else none

/-- All works; the first that is not possible. -/
def runWorks : HS → List WorkR → Nat → HS ⊕ Nat
  | H, [], _ => .inl H
  | H, x :: xs, i => match H.doWork x with
    | some H' => runWorks { H' with works := H'.works + 1 } xs (i + 1)
    | none => .inr i
/-- What 'open' answers: a hangar, or where and with which error it stops. -/
def openH (r : RegR) (l : List WorkR) : HS ⊕ (Int × Int) :=
  if validReg r then
    if l.length ≤ 200 then
      match runWorks (newHS r) l 0 with
      | .inl H => .inl H
      | .inr i => .inr (i, 91)
    else .inr (0, 2)
  else .inr (0, 90)

end Go.Proofs.YtchnhjffpldpiaaDoor

/- Small functions of package parts, walked. -/
namespace Go.Proofs.YtchnhjffpldpiaaDoor
open Go.RowKit

theorem agg3 (w : World) : (isAgg 3).run Tryd.prog w = .ok false w := by kernel_rfl
theorem gd_spot : (Tryd.prog).eqGuardType (Tryd.prog).depth 113 = false := by kernel_rfl
theorem gd_pair : (Tryd.prog).eqGuardType (Tryd.prog).depth 30 = false := by kernel_rfl
set_option maxRecDepth 100000 in
theorem eqi_spot (a b c d : Int) (w : World) : (Op.equalIn 10000 113 (.agg #[.int .i64 a, .int .i64 b]) (.agg #[.int .i64 c, .int .i64 d])).run Tryd.prog w = .ok (a == c && b == d) w :=
  run_eqlIn_arr2 113 3 .i64 _ Tryd.underlying113 Tryd.underlying3 rfl rfl agg3 a b c d w
set_option maxRecDepth 100000 in
theorem eqi_pair (a b c d : Int) (w : World) : (Op.equalIn 10000 30 (.agg #[.int .i64 a, .int .i64 b]) (.agg #[.int .i64 c, .int .i64 d])).run Tryd.prog w = .ok (a == c && b == d) w :=
  run_eqlIn_arr2 30 3 .i64 _ Tryd.underlying30 Tryd.underlying3 rfl rfl agg3 a b c d w

set_option maxHeartbeats 400000 in
theorem within_any (n lo hi : Int) (w : World) :
    Calls Tryd.prog 66 #[.int .i64 n, .int .i64 lo, .int .i64 hi] w fun e w' => e = .returned (.bool (inB n lo hi)) ∧ w = w' := by
  go_enter Tryd.func66, Tryd.ntmps66
  go_wp2
  all_goals
    go_ret
    refine ⟨?_, rfl⟩
    exact ret_bool (by rw [Bool.eq_iff_iff]; simp [inB, *]; try omega)
end Go.Proofs.YtchnhjffpldpiaaDoor

/- slices.IndexFunc and slices.ContainsFunc at the element types of this seat: each returns what the plain list function does, for every predicate that keeps old memory. -/
namespace Go.Proofs.YtchnhjffpldpiaaDoor
open Go.RowKit

def val_int : Int → Value := fun n : Int => Value.int .i64 n
set_option maxHeartbeats 400000 in
theorem index_int (zs : List Int) (p : Int → Bool) (g : Nat) (lb : Array Value) (eg : ∀ args w, (callFunc g args).run Tryd.prog w = .ok (.enter g args) w)
   (a : Option Addr) (n c : Nat) (w : World) (B : Nat) (hB : B ≤ w.heap.size) (hR : Rd encInt 1 w B a n zs) (hp : PredOn Tryd.prog val_int g lb p zs w) :
    Calls Tryd.prog 123 #[.slice a n c, .func (.func g) #[] lb] w fun e w' =>
      e = .returned (.int .i64 (idxFrom p zs 0)) ∧ Below w.heap.size w w' := by
  have hbig := hR.big
  obtain ⟨b, off, ha, hc⟩ := hR.ex
  have HN := Lib.hid hR.len
  have HB : Aside (∀ W, Below w.heap.size w W → Below B w W) := fun W hW => hW.mono hB
  clear hR hB
  go_enter Tryd.func123, Tryd.ntmps123
  go_wp2
  go_loopg [5, 8] n (fun gg _ s8 wr => ∃ kk : Nat, kk ≤ n ∧ n - kk ≤ gg ∧ s8 = .int .i64 kk ∧ Aside (Below w.heap.size w wr) ∧ Aside (idxFrom p zs 0 = idxFrom p (zs.drop kk) kk))
  case atStart => exact ⟨0, Nat.zero_le _, by omega, rfl, Below.refl _ w, rfl⟩
  case round =>
    obtain ⟨kk, hkk, hg, rfl, BW, A⟩ := hrel
    by_cases hlt : kk < n
    · have hltz : (kk : Int) < (n : Int) := by omega
      obtain ⟨rfl, hb⟩ := ha (by omega)
      have hlt' : kk < zs.length := by have := HN.out; omega
      have hcc : ∀ i u, (encInt zs[kk]!)[i]? = some u → wr.cell? ⟨b, off + kk * 1 + i, none⟩ = some u := fun i u hu => by
        rw [(HB.out _ BW.out).cell (p := ⟨b, off + kk * 1 + i, none⟩) hb]; exact hc kk hlt i u hu
      have hcall := hp kk hlt' wr BW.out
      have R : Aside (idxFrom p (zs.drop kk) kk = if p zs[kk]! then (kk : Int) else idxFrom p (zs.drop (kk + 1)) ((kk + 1 : Nat) : Int)) := idxFrom_drop p zs kk hlt'
      clear hc hp ha
      generalize hy : zs[kk]! = y at hcc hcall R
      clear hy hlt'
      have hl := hcc 0 _ rfl
      rw [Nat.mul_one, Nat.add_zero] at hl
      clear hcc
      simp only [val_int] at hcall
      cases hq : p y with
      | true =>
        rw [hq] at hcall
        go_wp2_with (go_at_fn g; refine hcall.mono ?_; rintro e w' ⟨rfl, hb'⟩)
        go_ret
        refine ⟨?_, BW.out.trans (hb'.mono BW.out.size)⟩
        rw [A.out, R.out, hq]
        rfl
      | false =>
        rw [hq] at hcall
        go_wp2_with (go_at_fn g; refine hcall.mono ?_; rintro e w' ⟨rfl, hb'⟩)
        go_roundg (n - (kk + 1))
        case measure => omega
        case rel =>
          refine ⟨kk + 1, by omega, by omega, by go_num, BW.out.trans (hb'.mono BW.out.size), ?_⟩
          show _ = _
          rw [A.out, R.out, hq]
          rfl
    · have hltz : ¬ (kk : Int) < (n : Int) := by omega
      have : kk = n := by omega
      subst this
      go_wp2
      go_ret
      refine ⟨?_, BW.out⟩
      rw [A.out, HN.out]
      simp [idxFrom]

set_option maxHeartbeats 400000 in
theorem contains_int (zs : List Int) (p : Int → Bool) (g : Nat) (lb : Array Value) (eg : ∀ args w, (callFunc g args).run Tryd.prog w = .ok (.enter g args) w)
   (a : Option Addr) (n c : Nat) (w : World) (B : Nat) (hB : B ≤ w.heap.size) (hR : Rd encInt 1 w B a n zs) (hp : PredOn Tryd.prog val_int g lb p zs w) :
    Calls Tryd.prog 88 #[.slice a n c, .func (.func g) #[] lb] w fun e w' =>
      e = .returned (.bool (zs.any p)) ∧ Below w.heap.size w w' := by
  rw [← idxFrom_ge p zs 0 (by omega)]
  have H := Lib.hid (index_int zs p g lb eg a n c w B hB hR hp)
  clear hR hp
  go_enter Tryd.func88, Tryd.ntmps88
  go_wp2_with (go_at_call 123; refine H.out.mono ?_; rintro e w' ⟨rfl, hb'⟩)
  all_goals
    go_ret
    exact ⟨rfl, hb'⟩

def val_part : (Nat × PS) → Value := fun b : Nat × PS => Value.pointer (some ⟨b.1, 0, none⟩)
set_option maxHeartbeats 400000 in
theorem index_part (zs : List (Nat × PS)) (p : (Nat × PS) → Bool) (g : Nat) (lb : Array Value) (eg : ∀ args w, (callFunc g args).run Tryd.prog w = .ok (.enter g args) w)
   (a : Option Addr) (n c : Nat) (w : World) (B : Nat) (hB : B ≤ w.heap.size) (hR : Rd encPtr 1 w B a n zs) (hp : PredOn Tryd.prog val_part g lb p zs w) :
    Calls Tryd.prog 128 #[.slice a n c, .func (.func g) #[] lb] w fun e w' =>
      e = .returned (.int .i64 (idxFrom p zs 0)) ∧ Below w.heap.size w w' := by
  have hbig := hR.big
  obtain ⟨b, off, ha, hc⟩ := hR.ex
  have HN := Lib.hid hR.len
  have HB : Aside (∀ W, Below w.heap.size w W → Below B w W) := fun W hW => hW.mono hB
  clear hR hB
  go_enter Tryd.func128, Tryd.ntmps128
  go_wp2
  go_loopg [5, 8] n (fun gg _ s8 wr => ∃ kk : Nat, kk ≤ n ∧ n - kk ≤ gg ∧ s8 = .int .i64 kk ∧ Aside (Below w.heap.size w wr) ∧ Aside (idxFrom p zs 0 = idxFrom p (zs.drop kk) kk))
  case atStart => exact ⟨0, Nat.zero_le _, by omega, rfl, Below.refl _ w, rfl⟩
  case round =>
    obtain ⟨kk, hkk, hg, rfl, BW, A⟩ := hrel
    by_cases hlt : kk < n
    · have hltz : (kk : Int) < (n : Int) := by omega
      obtain ⟨rfl, hb⟩ := ha (by omega)
      have hlt' : kk < zs.length := by have := HN.out; omega
      have hcc : ∀ i u, (encPtr zs[kk]!)[i]? = some u → wr.cell? ⟨b, off + kk * 1 + i, none⟩ = some u := fun i u hu => by
        rw [(HB.out _ BW.out).cell (p := ⟨b, off + kk * 1 + i, none⟩) hb]; exact hc kk hlt i u hu
      have hcall := hp kk hlt' wr BW.out
      have R : Aside (idxFrom p (zs.drop kk) kk = if p zs[kk]! then (kk : Int) else idxFrom p (zs.drop (kk + 1)) ((kk + 1 : Nat) : Int)) := idxFrom_drop p zs kk hlt'
      clear hc hp ha
      generalize hy : zs[kk]! = y at hcc hcall R
      clear hy hlt'
      have hl := hcc 0 _ rfl
      rw [Nat.mul_one, Nat.add_zero] at hl
      clear hcc
      simp only [val_part] at hcall
      cases hq : p y with
      | true =>
        rw [hq] at hcall
        go_wp2_with (go_at_fn g; refine hcall.mono ?_; rintro e w' ⟨rfl, hb'⟩)
        go_ret
        refine ⟨?_, BW.out.trans (hb'.mono BW.out.size)⟩
        rw [A.out, R.out, hq]
        rfl
      | false =>
        rw [hq] at hcall
        go_wp2_with (go_at_fn g; refine hcall.mono ?_; rintro e w' ⟨rfl, hb'⟩)
        go_roundg (n - (kk + 1))
        case measure => omega
        case rel =>
          refine ⟨kk + 1, by omega, by omega, by go_num, BW.out.trans (hb'.mono BW.out.size), ?_⟩
          show _ = _
          rw [A.out, R.out, hq]
          rfl
    · have hltz : ¬ (kk : Int) < (n : Int) := by omega
      have : kk = n := by omega
      subst this
      go_wp2
      go_ret
      refine ⟨?_, BW.out⟩
      rw [A.out, HN.out]
      simp [idxFrom]

def val_pair : (Int × Int) → Value := fun p : Int × Int => Value.agg #[.int .i64 p.1, .int .i64 p.2]
set_option maxHeartbeats 400000 in
theorem index_pair (zs : List (Int × Int)) (p : (Int × Int) → Bool) (g : Nat) (lb : Array Value) (eg : ∀ args w, (callFunc g args).run Tryd.prog w = .ok (.enter g args) w)
   (a : Option Addr) (n c : Nat) (w : World) (B : Nat) (hB : B ≤ w.heap.size) (hR : Rd encPair 2 w B a n zs) (hp : PredOn Tryd.prog val_pair g lb p zs w) :
    Calls Tryd.prog 127 #[.slice a n c, .func (.func g) #[] lb] w fun e w' =>
      e = .returned (.int .i64 (idxFrom p zs 0)) ∧ Below w.heap.size w w' := by
  have hbig := hR.big
  obtain ⟨b, off, ha, hc⟩ := hR.ex
  have HN := Lib.hid hR.len
  have HB : Aside (∀ W, Below w.heap.size w W → Below B w W) := fun W hW => hW.mono hB
  clear hR hB
  go_enter Tryd.func127, Tryd.ntmps127
  go_wp2
  go_loopg [5, 8] n (fun gg _ s8 wr => ∃ kk : Nat, kk ≤ n ∧ n - kk ≤ gg ∧ s8 = .int .i64 kk ∧ Aside (Below w.heap.size w wr) ∧ Aside (idxFrom p zs 0 = idxFrom p (zs.drop kk) kk))
  case atStart => exact ⟨0, Nat.zero_le _, by omega, rfl, Below.refl _ w, rfl⟩
  case round =>
    obtain ⟨kk, hkk, hg, rfl, BW, A⟩ := hrel
    by_cases hlt : kk < n
    · have hltz : (kk : Int) < (n : Int) := by omega
      obtain ⟨rfl, hb⟩ := ha (by omega)
      have hlt' : kk < zs.length := by have := HN.out; omega
      have hcc : ∀ i u, (encPair zs[kk]!)[i]? = some u → wr.cell? ⟨b, off + kk * 2 + i, none⟩ = some u := fun i u hu => by
        rw [(HB.out _ BW.out).cell (p := ⟨b, off + kk * 2 + i, none⟩) hb]; exact hc kk hlt i u hu
      have hcall := hp kk hlt' wr BW.out
      have R : Aside (idxFrom p (zs.drop kk) kk = if p zs[kk]! then (kk : Int) else idxFrom p (zs.drop (kk + 1)) ((kk + 1 : Nat) : Int)) := idxFrom_drop p zs kk hlt'
      clear hc hp ha
      generalize hy : zs[kk]! = y at hcc hcall R
      clear hy hlt'
      have hl0 := hcc 0 _ rfl
      have hl1 := hcc 1 _ rfl
      rw [Nat.add_zero] at hl0
      clear hcc
      simp only [val_pair] at hcall
      cases hq : p y with
      | true =>
        rw [hq] at hcall
        go_wp2_with (go_at_fn g; refine hcall.mono ?_; rintro e w' ⟨rfl, hb'⟩)
        go_ret
        refine ⟨?_, BW.out.trans (hb'.mono BW.out.size)⟩
        rw [A.out, R.out, hq]
        rfl
      | false =>
        rw [hq] at hcall
        go_wp2_with (go_at_fn g; refine hcall.mono ?_; rintro e w' ⟨rfl, hb'⟩)
        go_roundg (n - (kk + 1))
        case measure => omega
        case rel =>
          refine ⟨kk + 1, by omega, by omega, by go_num, BW.out.trans (hb'.mono BW.out.size), ?_⟩
          show _ = _
          rw [A.out, R.out, hq]
          rfl
    · have hltz : ¬ (kk : Int) < (n : Int) := by omega
      have : kk = n := by omega
      subst this
      go_wp2
      go_ret
      refine ⟨?_, BW.out⟩
      rw [A.out, HN.out]
      simp [idxFrom]

set_option maxHeartbeats 400000 in
theorem contains_pair (zs : List (Int × Int)) (p : (Int × Int) → Bool) (g : Nat) (lb : Array Value) (eg : ∀ args w, (callFunc g args).run Tryd.prog w = .ok (.enter g args) w)
   (a : Option Addr) (n c : Nat) (w : World) (B : Nat) (hB : B ≤ w.heap.size) (hR : Rd encPair 2 w B a n zs) (hp : PredOn Tryd.prog val_pair g lb p zs w) :
    Calls Tryd.prog 103 #[.slice a n c, .func (.func g) #[] lb] w fun e w' =>
      e = .returned (.bool (zs.any p)) ∧ Below w.heap.size w w' := by
  rw [← idxFrom_ge p zs 0 (by omega)]
  have H := Lib.hid (index_pair zs p g lb eg a n c w B hB hR hp)
  clear hR hp
  go_enter Tryd.func103, Tryd.ntmps103
  go_wp2_with (go_at_call 127; refine H.out.mono ?_; rintro e w' ⟨rfl, hb'⟩)
  all_goals
    go_ret
    exact ⟨rfl, hb'⟩

def val_kind : KindR → Value := fun k : KindR => Value.agg #[.int .i64 k.hours, .int .i64 k.cycles, .int .i64 k.places]
set_option maxHeartbeats 400000 in
theorem index_kind (zs : List KindR) (p : KindR → Bool) (g : Nat) (lb : Array Value) (eg : ∀ args w, (callFunc g args).run Tryd.prog w = .ok (.enter g args) w)
   (a : Option Addr) (n c : Nat) (w : World) (B : Nat) (hB : B ≤ w.heap.size) (hR : Rd encKind 3 w B a n zs) (hp : PredOn Tryd.prog val_kind g lb p zs w) :
    Calls Tryd.prog 162 #[.slice a n c, .func (.func g) #[] lb] w fun e w' =>
      e = .returned (.int .i64 (idxFrom p zs 0)) ∧ Below w.heap.size w w' := by
  have hbig := hR.big
  obtain ⟨b, off, ha, hc⟩ := hR.ex
  have HN := Lib.hid hR.len
  have HB : Aside (∀ W, Below w.heap.size w W → Below B w W) := fun W hW => hW.mono hB
  clear hR hB
  go_enter Tryd.func162, Tryd.ntmps162
  go_wp2
  go_loopg [5, 8] n (fun gg _ s8 wr => ∃ kk : Nat, kk ≤ n ∧ n - kk ≤ gg ∧ s8 = .int .i64 kk ∧ Aside (Below w.heap.size w wr) ∧ Aside (idxFrom p zs 0 = idxFrom p (zs.drop kk) kk))
  case atStart => exact ⟨0, Nat.zero_le _, by omega, rfl, Below.refl _ w, rfl⟩
  case round =>
    obtain ⟨kk, hkk, hg, rfl, BW, A⟩ := hrel
    by_cases hlt : kk < n
    · have hltz : (kk : Int) < (n : Int) := by omega
      obtain ⟨rfl, hb⟩ := ha (by omega)
      have hlt' : kk < zs.length := by have := HN.out; omega
      have hcc : ∀ i u, (encKind zs[kk]!)[i]? = some u → wr.cell? ⟨b, off + kk * 3 + i, none⟩ = some u := fun i u hu => by
        rw [(HB.out _ BW.out).cell (p := ⟨b, off + kk * 3 + i, none⟩) hb]; exact hc kk hlt i u hu
      have hcall := hp kk hlt' wr BW.out
      have R : Aside (idxFrom p (zs.drop kk) kk = if p zs[kk]! then (kk : Int) else idxFrom p (zs.drop (kk + 1)) ((kk + 1 : Nat) : Int)) := idxFrom_drop p zs kk hlt'
      clear hc hp ha
      generalize hy : zs[kk]! = y at hcc hcall R
      clear hy hlt'
      have hl0 := hcc 0 _ rfl
      have hl1 := hcc 1 _ rfl
      have hl2 := hcc 2 _ rfl
      rw [Nat.add_zero] at hl0
      clear hcc
      simp only [val_kind] at hcall
      cases hq : p y with
      | true =>
        rw [hq] at hcall
        go_wp2_with (go_at_fn g; refine hcall.mono ?_; rintro e w' ⟨rfl, hb'⟩)
        go_ret
        refine ⟨?_, BW.out.trans (hb'.mono BW.out.size)⟩
        rw [A.out, R.out, hq]
        rfl
      | false =>
        rw [hq] at hcall
        go_wp2_with (go_at_fn g; refine hcall.mono ?_; rintro e w' ⟨rfl, hb'⟩)
        go_roundg (n - (kk + 1))
        case measure => omega
        case rel =>
          refine ⟨kk + 1, by omega, by omega, by go_num, BW.out.trans (hb'.mono BW.out.size), ?_⟩
          show _ = _
          rw [A.out, R.out, hq]
          rfl
    · have hltz : ¬ (kk : Int) < (n : Int) := by omega
      have : kk = n := by omega
      subst this
      go_wp2
      go_ret
      refine ⟨?_, BW.out⟩
      rw [A.out, HN.out]
      simp [idxFrom]

set_option maxHeartbeats 400000 in
theorem contains_kind (zs : List KindR) (p : KindR → Bool) (g : Nat) (lb : Array Value) (eg : ∀ args w, (callFunc g args).run Tryd.prog w = .ok (.enter g args) w)
   (a : Option Addr) (n c : Nat) (w : World) (B : Nat) (hB : B ≤ w.heap.size) (hR : Rd encKind 3 w B a n zs) (hp : PredOn Tryd.prog val_kind g lb p zs w) :
    Calls Tryd.prog 137 #[.slice a n c, .func (.func g) #[] lb] w fun e w' =>
      e = .returned (.bool (zs.any p)) ∧ Below w.heap.size w w' := by
  rw [← idxFrom_ge p zs 0 (by omega)]
  have H := Lib.hid (index_kind zs p g lb eg a n c w B hB hR hp)
  clear hR hp
  go_enter Tryd.func137, Tryd.ntmps137
  go_wp2_with (go_at_call 162; refine H.out.mono ?_; rintro e w' ⟨rfl, hb'⟩)
  all_goals
    go_ret
    exact ⟨rfl, hb'⟩

def val_partR : PartR → Value := fun p : PartR => Value.agg #[.int .i64 p.kind, .int .i64 p.hours, .int .i64 p.cycles, .bool p.known]
set_option maxHeartbeats 400000 in
theorem index_partR (zs : List PartR) (p : PartR → Bool) (g : Nat) (lb : Array Value) (eg : ∀ args w, (callFunc g args).run Tryd.prog w = .ok (.enter g args) w)
   (a : Option Addr) (n c : Nat) (w : World) (B : Nat) (hB : B ≤ w.heap.size) (hR : Rd encPart 4 w B a n zs) (hp : PredOn Tryd.prog val_partR g lb p zs w) :
    Calls Tryd.prog 163 #[.slice a n c, .func (.func g) #[] lb] w fun e w' =>
      e = .returned (.int .i64 (idxFrom p zs 0)) ∧ Below w.heap.size w w' := by
  have hbig := hR.big
  obtain ⟨b, off, ha, hc⟩ := hR.ex
  have HN := Lib.hid hR.len
  have HB : Aside (∀ W, Below w.heap.size w W → Below B w W) := fun W hW => hW.mono hB
  clear hR hB
  go_enter Tryd.func163, Tryd.ntmps163
  go_wp2
  go_loopg [5, 8] n (fun gg _ s8 wr => ∃ kk : Nat, kk ≤ n ∧ n - kk ≤ gg ∧ s8 = .int .i64 kk ∧ Aside (Below w.heap.size w wr) ∧ Aside (idxFrom p zs 0 = idxFrom p (zs.drop kk) kk))
  case atStart => exact ⟨0, Nat.zero_le _, by omega, rfl, Below.refl _ w, rfl⟩
  case round =>
    obtain ⟨kk, hkk, hg, rfl, BW, A⟩ := hrel
    by_cases hlt : kk < n
    · have hltz : (kk : Int) < (n : Int) := by omega
      obtain ⟨rfl, hb⟩ := ha (by omega)
      have hlt' : kk < zs.length := by have := HN.out; omega
      have hcc : ∀ i u, (encPart zs[kk]!)[i]? = some u → wr.cell? ⟨b, off + kk * 4 + i, none⟩ = some u := fun i u hu => by
        rw [(HB.out _ BW.out).cell (p := ⟨b, off + kk * 4 + i, none⟩) hb]; exact hc kk hlt i u hu
      have hcall := hp kk hlt' wr BW.out
      have R : Aside (idxFrom p (zs.drop kk) kk = if p zs[kk]! then (kk : Int) else idxFrom p (zs.drop (kk + 1)) ((kk + 1 : Nat) : Int)) := idxFrom_drop p zs kk hlt'
      clear hc hp ha
      generalize hy : zs[kk]! = y at hcc hcall R
      clear hy hlt'
      have hl0 := hcc 0 _ rfl
      have hl1 := hcc 1 _ rfl
      have hl2 := hcc 2 _ rfl
      have hl3 := hcc 3 _ rfl
      rw [Nat.add_zero] at hl0
      clear hcc
      simp only [val_partR] at hcall
      cases hq : p y with
      | true =>
        rw [hq] at hcall
        go_wp2_with (go_at_fn g; refine hcall.mono ?_; rintro e w' ⟨rfl, hb'⟩)
        go_ret
        refine ⟨?_, BW.out.trans (hb'.mono BW.out.size)⟩
        rw [A.out, R.out, hq]
        rfl
      | false =>
        rw [hq] at hcall
        go_wp2_with (go_at_fn g; refine hcall.mono ?_; rintro e w' ⟨rfl, hb'⟩)
        go_roundg (n - (kk + 1))
        case measure => omega
        case rel =>
          refine ⟨kk + 1, by omega, by omega, by go_num, BW.out.trans (hb'.mono BW.out.size), ?_⟩
          show _ = _
          rw [A.out, R.out, hq]
          rfl
    · have hltz : ¬ (kk : Int) < (n : Int) := by omega
      have : kk = n := by omega
      subst this
      go_wp2
      go_ret
      refine ⟨?_, BW.out⟩
      rw [A.out, HN.out]
      simp [idxFrom]

set_option maxHeartbeats 400000 in
theorem contains_partR (zs : List PartR) (p : PartR → Bool) (g : Nat) (lb : Array Value) (eg : ∀ args w, (callFunc g args).run Tryd.prog w = .ok (.enter g args) w)
   (a : Option Addr) (n c : Nat) (w : World) (B : Nat) (hB : B ≤ w.heap.size) (hR : Rd encPart 4 w B a n zs) (hp : PredOn Tryd.prog val_partR g lb p zs w) :
    Calls Tryd.prog 139 #[.slice a n c, .func (.func g) #[] lb] w fun e w' =>
      e = .returned (.bool (zs.any p)) ∧ Below w.heap.size w w' := by
  rw [← idxFrom_ge p zs 0 (by omega)]
  have H := Lib.hid (index_partR zs p g lb eg a n c w B hB hR hp)
  clear hR hp
  go_enter Tryd.func139, Tryd.ntmps139
  go_wp2_with (go_at_call 163; refine H.out.mono ?_; rintro e w' ⟨rfl, hb'⟩)
  all_goals
    go_ret
    exact ⟨rfl, hb'⟩

def val_order : OrderR → Value := fun o : OrderR => Value.agg #[.int .i64 o.kind, .int .i64 o.within]
set_option maxHeartbeats 400000 in
theorem index_order (zs : List OrderR) (p : OrderR → Bool) (g : Nat) (lb : Array Value) (eg : ∀ args w, (callFunc g args).run Tryd.prog w = .ok (.enter g args) w)
   (a : Option Addr) (n c : Nat) (w : World) (B : Nat) (hB : B ≤ w.heap.size) (hR : Rd encOrder 2 w B a n zs) (hp : PredOn Tryd.prog val_order g lb p zs w) :
    Calls Tryd.prog 164 #[.slice a n c, .func (.func g) #[] lb] w fun e w' =>
      e = .returned (.int .i64 (idxFrom p zs 0)) ∧ Below w.heap.size w w' := by
  have hbig := hR.big
  obtain ⟨b, off, ha, hc⟩ := hR.ex
  have HN := Lib.hid hR.len
  have HB : Aside (∀ W, Below w.heap.size w W → Below B w W) := fun W hW => hW.mono hB
  clear hR hB
  go_enter Tryd.func164, Tryd.ntmps164
  go_wp2
  go_loopg [5, 8] n (fun gg _ s8 wr => ∃ kk : Nat, kk ≤ n ∧ n - kk ≤ gg ∧ s8 = .int .i64 kk ∧ Aside (Below w.heap.size w wr) ∧ Aside (idxFrom p zs 0 = idxFrom p (zs.drop kk) kk))
  case atStart => exact ⟨0, Nat.zero_le _, by omega, rfl, Below.refl _ w, rfl⟩
  case round =>
    obtain ⟨kk, hkk, hg, rfl, BW, A⟩ := hrel
    by_cases hlt : kk < n
    · have hltz : (kk : Int) < (n : Int) := by omega
      obtain ⟨rfl, hb⟩ := ha (by omega)
      have hlt' : kk < zs.length := by have := HN.out; omega
      have hcc : ∀ i u, (encOrder zs[kk]!)[i]? = some u → wr.cell? ⟨b, off + kk * 2 + i, none⟩ = some u := fun i u hu => by
        rw [(HB.out _ BW.out).cell (p := ⟨b, off + kk * 2 + i, none⟩) hb]; exact hc kk hlt i u hu
      have hcall := hp kk hlt' wr BW.out
      have R : Aside (idxFrom p (zs.drop kk) kk = if p zs[kk]! then (kk : Int) else idxFrom p (zs.drop (kk + 1)) ((kk + 1 : Nat) : Int)) := idxFrom_drop p zs kk hlt'
      clear hc hp ha
      generalize hy : zs[kk]! = y at hcc hcall R
      clear hy hlt'
      have hl0 := hcc 0 _ rfl
      have hl1 := hcc 1 _ rfl
      rw [Nat.add_zero] at hl0
      clear hcc
      simp only [val_order] at hcall
      cases hq : p y with
      | true =>
        rw [hq] at hcall
        go_wp2_with (go_at_fn g; refine hcall.mono ?_; rintro e w' ⟨rfl, hb'⟩)
        go_ret
        refine ⟨?_, BW.out.trans (hb'.mono BW.out.size)⟩
        rw [A.out, R.out, hq]
        rfl
      | false =>
        rw [hq] at hcall
        go_wp2_with (go_at_fn g; refine hcall.mono ?_; rintro e w' ⟨rfl, hb'⟩)
        go_roundg (n - (kk + 1))
        case measure => omega
        case rel =>
          refine ⟨kk + 1, by omega, by omega, by go_num, BW.out.trans (hb'.mono BW.out.size), ?_⟩
          show _ = _
          rw [A.out, R.out, hq]
          rfl
    · have hltz : ¬ (kk : Int) < (n : Int) := by omega
      have : kk = n := by omega
      subst this
      go_wp2
      go_ret
      refine ⟨?_, BW.out⟩
      rw [A.out, HN.out]
      simp [idxFrom]

set_option maxHeartbeats 400000 in
theorem contains_order (zs : List OrderR) (p : OrderR → Bool) (g : Nat) (lb : Array Value) (eg : ∀ args w, (callFunc g args).run Tryd.prog w = .ok (.enter g args) w)
   (a : Option Addr) (n c : Nat) (w : World) (B : Nat) (hB : B ≤ w.heap.size) (hR : Rd encOrder 2 w B a n zs) (hp : PredOn Tryd.prog val_order g lb p zs w) :
    Calls Tryd.prog 141 #[.slice a n c, .func (.func g) #[] lb] w fun e w' =>
      e = .returned (.bool (zs.any p)) ∧ Below w.heap.size w w' := by
  rw [← idxFrom_ge p zs 0 (by omega)]
  have H := Lib.hid (index_order zs p g lb eg a n c w B hB hR hp)
  clear hR hp
  go_enter Tryd.func141, Tryd.ntmps141
  go_wp2_with (go_at_call 164; refine H.out.mono ?_; rintro e w' ⟨rfl, hb'⟩)
  all_goals
    go_ret
    exact ⟨rfl, hb'⟩

def val_span : SpanR → Value := fun o : SpanR => Value.agg #[.int .i64 o.low, .int .i64 o.high]
set_option maxHeartbeats 400000 in
theorem index_span (zs : List SpanR) (p : SpanR → Bool) (g : Nat) (lb : Array Value) (eg : ∀ args w, (callFunc g args).run Tryd.prog w = .ok (.enter g args) w)
   (a : Option Addr) (n c : Nat) (w : World) (B : Nat) (hB : B ≤ w.heap.size) (hR : Rd encSpan 2 w B a n zs) (hp : PredOn Tryd.prog val_span g lb p zs w) :
    Calls Tryd.prog 173 #[.slice a n c, .func (.func g) #[] lb] w fun e w' =>
      e = .returned (.int .i64 (idxFrom p zs 0)) ∧ Below w.heap.size w w' := by
  have hbig := hR.big
  obtain ⟨b, off, ha, hc⟩ := hR.ex
  have HN := Lib.hid hR.len
  have HB : Aside (∀ W, Below w.heap.size w W → Below B w W) := fun W hW => hW.mono hB
  clear hR hB
  go_enter Tryd.func173, Tryd.ntmps173
  go_wp2
  go_loopg [5, 8] n (fun gg _ s8 wr => ∃ kk : Nat, kk ≤ n ∧ n - kk ≤ gg ∧ s8 = .int .i64 kk ∧ Aside (Below w.heap.size w wr) ∧ Aside (idxFrom p zs 0 = idxFrom p (zs.drop kk) kk))
  case atStart => exact ⟨0, Nat.zero_le _, by omega, rfl, Below.refl _ w, rfl⟩
  case round =>
    obtain ⟨kk, hkk, hg, rfl, BW, A⟩ := hrel
    by_cases hlt : kk < n
    · have hltz : (kk : Int) < (n : Int) := by omega
      obtain ⟨rfl, hb⟩ := ha (by omega)
      have hlt' : kk < zs.length := by have := HN.out; omega
      have hcc : ∀ i u, (encSpan zs[kk]!)[i]? = some u → wr.cell? ⟨b, off + kk * 2 + i, none⟩ = some u := fun i u hu => by
        rw [(HB.out _ BW.out).cell (p := ⟨b, off + kk * 2 + i, none⟩) hb]; exact hc kk hlt i u hu
      have hcall := hp kk hlt' wr BW.out
      have R : Aside (idxFrom p (zs.drop kk) kk = if p zs[kk]! then (kk : Int) else idxFrom p (zs.drop (kk + 1)) ((kk + 1 : Nat) : Int)) := idxFrom_drop p zs kk hlt'
      clear hc hp ha
      generalize hy : zs[kk]! = y at hcc hcall R
      clear hy hlt'
      have hl0 := hcc 0 _ rfl
      have hl1 := hcc 1 _ rfl
      rw [Nat.add_zero] at hl0
      clear hcc
      simp only [val_span] at hcall
      cases hq : p y with
      | true =>
        rw [hq] at hcall
        go_wp2_with (go_at_fn g; refine hcall.mono ?_; rintro e w' ⟨rfl, hb'⟩)
        go_ret
        refine ⟨?_, BW.out.trans (hb'.mono BW.out.size)⟩
        rw [A.out, R.out, hq]
        rfl
      | false =>
        rw [hq] at hcall
        go_wp2_with (go_at_fn g; refine hcall.mono ?_; rintro e w' ⟨rfl, hb'⟩)
        go_roundg (n - (kk + 1))
        case measure => omega
        case rel =>
          refine ⟨kk + 1, by omega, by omega, by go_num, BW.out.trans (hb'.mono BW.out.size), ?_⟩
          show _ = _
          rw [A.out, R.out, hq]
          rfl
    · have hltz : ¬ (kk : Int) < (n : Int) := by omega
      have : kk = n := by omega
      subst this
      go_wp2
      go_ret
      refine ⟨?_, BW.out⟩
      rw [A.out, HN.out]
      simp [idxFrom]

set_option maxHeartbeats 400000 in
theorem contains_span (zs : List SpanR) (p : SpanR → Bool) (g : Nat) (lb : Array Value) (eg : ∀ args w, (callFunc g args).run Tryd.prog w = .ok (.enter g args) w)
   (a : Option Addr) (n c : Nat) (w : World) (B : Nat) (hB : B ≤ w.heap.size) (hR : Rd encSpan 2 w B a n zs) (hp : PredOn Tryd.prog val_span g lb p zs w) :
    Calls Tryd.prog 165 #[.slice a n c, .func (.func g) #[] lb] w fun e w' =>
      e = .returned (.bool (zs.any p)) ∧ Below w.heap.size w w' := by
  rw [← idxFrom_ge p zs 0 (by omega)]
  have H := Lib.hid (index_span zs p g lb eg a n c w B hB hR hp)
  clear hR hp
  go_enter Tryd.func165, Tryd.ntmps165
  go_wp2_with (go_at_call 173; refine H.out.mono ?_; rintro e w' ⟨rfl, hb'⟩)
  all_goals
    go_ret
    exact ⟨rfl, hb'⟩

end Go.Proofs.YtchnhjffpldpiaaDoor

/- parts.valid: a register is valid exactly if the plain check says so. -/
namespace Go.Proofs.YtchnhjffpldpiaaDoor
open Go.RowKit

theorem cell_new1 (w : World) (o : Obj) (c : Array Value) (t : TypeId) (i : Nat) : ((w.alloc o).alloc (.cells c t)).cell? ⟨w.heap.size + 1, i, none⟩ = c[i]? := by
  have := World.cell?_alloc_new (w.alloc o) c t i
  rwa [World.size_alloc] at this

set_option maxHeartbeats 400000 in
theorem valid1_any (n : Int) (rb : Nat) (ka : Option Addr) (nk kc : Nat) (w : World) (hk : nk ≤ 1000) (hc : w.cell? ⟨rb, 0, none⟩ = some (.slice ka nk kc)) :
    Calls Tryd.prog 136 #[.int .i64 n, .pointer (some ⟨rb, 0, none⟩)] w fun e w' => e = .returned (.bool (inB n 0 ((nk : Int) - 1))) ∧ w = w' := by
  go_enter Tryd.func136, Tryd.ntmps136
  go_wp2_with (go_at_call 66; refine (within_any _ _ _ _).mono ?_; rintro e w' ⟨rfl, rfl⟩)
  go_ret
  exact ⟨rfl, rfl⟩

set_option maxHeartbeats 400000 in
theorem valid2_any (k : KindR) (w : World) :
    Calls Tryd.prog 138 (#[val_kind k] ++ #[]) w fun e w' => e = .returned (.bool (badKind k)) ∧ Below w.heap.size w w' := by
  simp only [val_kind, Array.append_empty]
  go_enter Tryd.func138, Tryd.ntmps138
  go_wp2_with (go_at_call 66; refine (within_any _ _ _ _).mono ?_; rintro e w' ⟨rfl, rfl⟩)
  all_goals
    go_ret
    exact ⟨ret_bool (by simp [badKind, *]), by go_grown⟩

set_option maxHeartbeats 400000 in
theorem valid3_any (p : PartR) (nk : Nat) (kb rb : Nat) (ka : Option Addr) (kc : Nat) (w : World) (hk : nk ≤ 1000) (hc : w.cell? ⟨rb, 0, none⟩ = some (.slice ka nk kc))
    (hf : w.cell? ⟨kb, 0, none⟩ = some (.func (.func 136) #[] #[.pointer (some ⟨rb, 0, none⟩)])) :
    Calls Tryd.prog 140 (#[val_partR p] ++ #[.pointer (some ⟨kb, 0, none⟩)]) w fun e w' => e = .returned (.bool (badPart nk p)) ∧ Below w.heap.size w w' := by
  have hrb : rb < w.heap.size := World.block_lt_of_cell? w _ hc
  have hkb : kb < w.heap.size := World.block_lt_of_cell? w _ hf
  have hrb' : rb ≠ w.heap.size := by omega
  simp only [val_partR, List.append_toArray, List.cons_append, List.nil_append]
  go_enter Tryd.func140, Tryd.ntmps140
  go_wp2_with (first | (go_at_call 66; refine (within_any _ _ _ _).mono ?_; rintro e w' ⟨rfl, rfl⟩) | (go_at_call 136; refine (valid1_any _ _ ka nk kc _ hk ?_).mono ?_; rotate_left; rintro e w' ⟨rfl, rfl⟩))
  rotate_right
  · rw [World.cell?_alloc_lt _ _ _ hrb]; exact hc
  all_goals
    go_ret
    exact ⟨ret_bool (by simp [badPart, *]), by go_grown⟩

set_option maxHeartbeats 400000 in
theorem valid4_any (o : OrderR) (nk : Nat) (kb rb : Nat) (ka : Option Addr) (kc : Nat) (w : World) (hk : nk ≤ 1000) (hc : w.cell? ⟨rb, 0, none⟩ = some (.slice ka nk kc))
    (hf : w.cell? ⟨kb, 0, none⟩ = some (.func (.func 136) #[] #[.pointer (some ⟨rb, 0, none⟩)])) :
    Calls Tryd.prog 142 (#[val_order o] ++ #[.pointer (some ⟨kb, 0, none⟩)]) w fun e w' => e = .returned (.bool (badOrder nk o)) ∧ Below w.heap.size w w' := by
  have hrb : rb < w.heap.size := World.block_lt_of_cell? w _ hc
  have hkb : kb < w.heap.size := World.block_lt_of_cell? w _ hf
  simp only [val_order, List.append_toArray, List.cons_append, List.nil_append]
  go_enter Tryd.func142, Tryd.ntmps142
  go_wp2_with (first | (go_at_call 66; refine (within_any _ _ _ _).mono ?_; rintro e w' ⟨rfl, rfl⟩) | (go_at_call 136; refine (valid1_any _ _ ka nk kc _ hk ?_).mono ?_; rotate_left; rintro e w' ⟨rfl, rfl⟩))
  rotate_right
  · rw [World.cell?_alloc_lt _ _ _ hrb]; exact hc
  all_goals
    go_ret
    exact ⟨ret_bool (by simp [badOrder, *]), by go_grown⟩

/-- A register's value, and what it reads as. -/
structure RegRd (w : World) (B : Nat) (ka pa oa : Option Addr) (nk np no : Nat) (r : RegR) : Prop where
  kinds : Rd encKind 3 w B ka nk r.kinds
  parts : Rd encPart 4 w B pa np r.parts
  orders : Rd encOrder 2 w B oa no r.orders

theorem RegRd.below {w w' : World} {B : Nat} {ka pa oa : Option Addr} {nk np no : Nat} {r : RegR} (h : RegRd w B ka pa oa nk np no r) (hb : Below B w w') : RegRd w' B ka pa oa nk np no r :=
  ⟨h.kinds.below hb, h.parts.below hb, h.orders.below hb⟩
theorem RegRd.up {w : World} {B B' : Nat} {ka pa oa : Option Addr} {nk np no : Nat} {r : RegR} (h : RegRd w B ka pa oa nk np no r) (hb : B ≤ B') : RegRd w B' ka pa oa nk np no r :=
  ⟨h.kinds.up hb, h.parts.up hb, h.orders.up hb⟩

set_option maxHeartbeats 1000000 in
theorem valid_any (r : RegR) (ka pa oa : Option Addr) (nk kc np pc no oc : Nat) (w : World) (B : Nat) (hB : B ≤ w.heap.size) (hR : RegRd w B ka pa oa nk np no r) :
    Calls Tryd.prog 117 #[.agg #[.slice ka nk kc, .slice pa np pc, .int .i64 r.machines, .slice oa no oc]] w fun e w' =>
      e = .returned (.bool (validReg r)) ∧ Below w.heap.size w w' := by
  have hk := hR.kinds.len
  have hp := hR.parts.len
  have ho := hR.orders.len
  have hkb := hR.kinds.big
  have hpb := hR.parts.big
  have hob := hR.orders.big
  have HK := Lib.hid hk
  have HP := Lib.hid hp
  have HO := Lib.hid ho
  clear hk hp ho
  by_cases hg : (6 < (nk : Int) ∨ 24 < (np : Int) ∨ 6 < (no : Int) ∨ inB r.machines 0 4 = false)
  · have hv : validReg r = false := by
      unfold validReg
      rw [← HK.out, ← HP.out, ← HO.out]
      rcases hg with h | h | h | h <;> simp [h]
    have HV := Lib.hid hv
    clear hv hR
    go_enter Tryd.func117, Tryd.ntmps117
    go_wp2_with (first | (go_at_call 66; refine (within_any _ _ _ _).mono ?_; rintro e w' ⟨rfl, rfl⟩))
    all_goals first
      | (go_ret; exact ⟨ret_bool (by rw [HV.out]), by go_grown⟩)
      | (exfalso; rcases hg with h | h | h | h <;> first | omega | (simp_all; done))
  · have h1 : (nk : Int) ≤ 6 := by omega
    have h2 : (np : Int) ≤ 24 := by omega
    have h3 : (no : Int) ≤ 6 := by omega
    have h4 : inB r.machines 0 4 = true := by
      by_cases h : inB r.machines 0 4 = true
      · exact h
      · simp_all
    clear hg
    have HV : Aside (validReg r = (!r.kinds.any badKind && !r.parts.any (badPart nk) && !r.orders.any (badOrder nk))) := by
      show _ = _
      unfold validReg
      rw [← HK.out, ← HP.out, ← HO.out]
      simp [h1, h2, h3, h4]
    have HR : Aside (RegRd w B ka pa oa nk np no r) := hR
    clear hR
    have e138 := enters_of (P := Tryd.prog) Tryd.func138 (by kernel_rfl) rfl
    have e140 := enters_of (P := Tryd.prog) Tryd.func140 (by kernel_rfl) rfl
    have e142 := enters_of (P := Tryd.prog) Tryd.func142 (by kernel_rfl) rfl
    go_enter Tryd.func117, Tryd.ntmps117
    go_wp2_with (first | (go_at_call 66; refine (within_any _ _ _ _).mono ?_; rintro e w' ⟨rfl, rfl⟩))
    refine Calls_named fun W hW => ?_
    have c0 : W.cell? ⟨w.heap.size, 0, none⟩ = some (.slice ka nk kc) := by rw [hW]; simp [World.cell?_alloc_old]
    have c1 : W.cell? ⟨w.heap.size, 1, none⟩ = some (.slice pa np pc) := by rw [hW]; simp [World.cell?_alloc_old]
    have c3 : W.cell? ⟨w.heap.size, 3, none⟩ = some (.slice oa no oc) := by rw [hW]; simp [World.cell?_alloc_old]
    have ck : W.cell? ⟨w.heap.size + 1, 0, none⟩ = some (.func (.func 136) #[] #[.pointer (some ⟨w.heap.size, 0, none⟩)]) := by
      rw [hW, cell_new1]; rfl
    have hBW : Below w.heap.size w W := by rw [hW]; exact ((Below.refl _ _).alloc (Nat.le_refl _) _).alloc (by simp) _
    have hsz : W.heap.size = w.heap.size + 2 := by rw [hW]; simp
    clear hW
    have hsz1 : B ≤ W.heap.size := by omega
    have RK := HR.out.kinds.below (hBW.mono hB)
    have RP := HR.out.parts.below (hBW.mono hB)
    have RO := HR.out.orders.below (hBW.mono hB)
    have hk1 : nk ≤ 1000 := by omega
    have K1 := Lib.hid (contains_kind r.kinds badKind _ #[] e138 ka nk kc W B hsz1 RK (fun j hj W' hW' => valid2_any _ W'))
    have K2 : Aside (∀ W1, Below W.heap.size W W1 → Calls Tryd.prog 139 #[.slice pa np pc, .func (.func 140) #[] #[.pointer (some ⟨w.heap.size + 1, 0, none⟩)]] W1 fun e w' =>
      e = .returned (.bool (r.parts.any (badPart nk))) ∧ Below W1.heap.size W1 w') := fun W1 h1 =>
      contains_partR r.parts (badPart nk) _ _ e140 pa np pc W1 B (by have := h1.size; omega) (RP.below (h1.mono (by omega))) (fun j hj W' hW' =>
        valid3_any _ nk (w.heap.size + 1) w.heap.size ka kc W' hk1
          (by rw [(hW'.mono h1.size).cell (by simp; omega), h1.cell (by simp; omega)]; exact c0)
          (by rw [(hW'.mono h1.size).cell (by simp; omega), h1.cell (by simp; omega)]; exact ck))
    have K3 : Aside (∀ W1, Below W.heap.size W W1 → Calls Tryd.prog 141 #[.slice oa no oc, .func (.func 142) #[] #[.pointer (some ⟨w.heap.size + 1, 0, none⟩)]] W1 fun e w' =>
      e = .returned (.bool (r.orders.any (badOrder nk))) ∧ Below W1.heap.size W1 w') := fun W1 h1 =>
      contains_order r.orders (badOrder nk) _ _ e142 oa no oc W1 B (by have := h1.size; omega) (RO.below (h1.mono (by omega))) (fun j hj W' hW' =>
        valid4_any _ nk (w.heap.size + 1) w.heap.size ka kc W' hk1
          (by rw [(hW'.mono h1.size).cell (by simp; omega), h1.cell (by simp; omega)]; exact c0)
          (by rw [(hW'.mono h1.size).cell (by simp; omega), h1.cell (by simp; omega)]; exact ck))
    clear RK RP RO
    refine K1.out.mono ?_
    rintro e W1 ⟨rfl, hW1⟩
    have hs1 := hW1.size
    have d0 : W1.cell? ⟨w.heap.size, 0, none⟩ = some (.slice ka nk kc) := by rw [hW1.cell (by simp; omega)]; exact c0
    have d1 : W1.cell? ⟨w.heap.size, 1, none⟩ = some (.slice pa np pc) := by rw [hW1.cell (by simp; omega)]; exact c1
    have d3 : W1.cell? ⟨w.heap.size, 3, none⟩ = some (.slice oa no oc) := by rw [hW1.cell (by simp; omega)]; exact c3
    clear c0 c1 c3 ck
    have hB1 := Lib.hid (hBW.trans (hW1.mono (by omega)))
    cases q1 : r.kinds.any badKind with
    | true =>
      go_wp2
      go_ret
      exact ⟨ret_bool (by rw [HV.out, q1]; rfl), hB1.out⟩
    | false =>
      go_wp2_with fail
      refine (K2.out _ hW1).mono ?_
      rintro e W2 ⟨rfl, hW2⟩
      have hs2 := hW2.size
      have f3 : W2.cell? ⟨w.heap.size, 3, none⟩ = some (.slice oa no oc) := by rw [hW2.cell (by simp; omega)]; exact d3
      clear d0 d1 d3
      have hB2 := Lib.hid (hB1.out.trans (hW2.mono (by omega)))
      cases q2 : r.parts.any (badPart nk) with
      | true =>
        go_wp2
        go_ret
        exact ⟨ret_bool (by rw [HV.out, q1, q2]; rfl), hB2.out⟩
      | false =>
        go_wp2_with fail
        refine (K3.out _ (hW1.trans (hW2.mono hW1.size))).mono ?_
        rintro e W3 ⟨rfl, hW3⟩
        go_wp2
        go_ret
        exact ⟨ret_bool (by rw [HV.out, q1, q2]; simp), hB2.out.trans (hW3.mono (by omega))⟩
end Go.Proofs.YtchnhjffpldpiaaDoor

/- How a hangar lies in memory. No walk. -/
namespace Go.Proofs.YtchnhjffpldpiaaDoor
open Go.RowKit

/-- Where a hangar's blocks lie. -/
structure HL where
  ka : Option Addr
  kc : Nat
  pa : Option Addr
  pc : Nat
  oa : Option Addr
  oc : Nat
  hb : Nat
  pr : Nat
  pcap : Nat
  pspare : List Value
  ib : Nat
  fb : Nat
  hr : Nat
  pb : Nat → Nat
  sb : Nat → Nat
  cb : Nat → Nat
  gb : Nat → Nat
  gcap : Nat → Nat
  gspare : Nat → List Value

inductive Slot where
  | h | pr | ib | fb | hr
  | part (i : Nat) | since (i : Nat) | chk (i : Nat) | hist (i : Nat)
deriving DecidableEq

def HL.blk (L : HL) : Slot → Nat
  | .h => L.hb
  | .pr => L.pr
  | .ib => L.ib
  | .fb => L.fb
  | .hr => L.hr
  | .part i => L.pb i
  | .since i => L.sb i
  | .chk i => L.cb i
  | .hist i => L.gb i

def okSlot (H : HS) : Slot → Prop
  | .h | .ib | .fb | .hr => True
  | .pr => 0 < H.parts.length
  | .part i | .since i | .chk i => i < H.parts.length
  | .hist i => i < H.parts.length ∧ H.hist[i]! ≠ []

/-- A history's slice. -/
def histV (L : HL) (l : List StretchR) (i : Nat) : Value := if l = [] then .slice none 0 0 else .slice (some ⟨L.gb i, 0, none⟩) l.length (L.gcap i)
/-- The slice of the parts. -/
def partsV (L : HL) (np : Nat) : Value := if np = 0 then .slice none 0 0 else .slice (some ⟨L.pr, 0, none⟩) np L.pcap

def partCells (L : HL) (p : PS) (no i : Nat) : List Value :=
  [.int .i64 p.kind, .int .i64 p.hours, .int .i64 p.cycles, .bool p.known, .int .i64 p.im, .int .i64 p.ip, .slice (some ⟨L.sb i, 0, none⟩) no no, .slice (some ⟨L.cb i, 0, none⟩) no no]

def cellsOf (L : HL) (H : HS) : Slot → List Value
  | .h => [.slice L.ka H.reg.kinds.length L.kc, .slice L.pa H.reg.parts.length L.pc, .int .i64 H.reg.machines, .slice L.oa H.reg.orders.length L.oc,
      partsV L H.parts.length, .slice (some ⟨L.ib, 0, none⟩) H.reg.orders.length H.reg.orders.length, .slice (some ⟨L.fb, 0, none⟩) H.flown.length H.flown.length,
      .int .i64 H.works, .slice (some ⟨L.hr, 0, none⟩) H.parts.length H.parts.length]
  | .pr => (List.range H.parts.length).map (fun i => Value.pointer (some ⟨L.pb i, 0, none⟩)) ++ L.pspare
  | .ib => H.issued.map Value.bool
  | .fb => H.flown.flatMap encPair
  | .hr => (List.range H.parts.length).map (fun i => histV L H.hist[i]! i)
  | .part i => partCells L H.parts[i]! H.reg.orders.length i
  | .since i => (H.parts[i]!).since.map (Value.int .i64)
  | .chk i => (H.parts[i]!).chk.map Value.bool
  | .hist i => (H.hist[i]!).flatMap encStretch ++ L.gspare i

def tyOf : Slot → TypeId
  | .h => 132
  | .pr => 112
  | .ib => 4
  | .fb => 113
  | .hr => 57
  | .part _ => 116
  | .since _ => 3
  | .chk _ => 4
  | .hist _ => 61

/-- The lists of a hangar have the lengths that they should. -/
structure HS.Fit (H : HS) : Prop where
  valid : validReg H.reg = true
  parts : H.parts.length = H.reg.parts.length
  issued : H.issued.length = H.reg.orders.length
  flown : (H.flown.length : Int) = H.reg.machines
  hist : H.hist.length = H.parts.length
  since : ∀ i, i < H.parts.length → (H.parts[i]!).since.length = H.reg.orders.length
  chk : ∀ i, i < H.parts.length → (H.parts[i]!).chk.length = H.reg.orders.length
  works0 : 0 ≤ H.works
  works1 : H.works ≤ 200
  kind0 : ∀ i, i < H.parts.length → 0 ≤ (H.parts[i]!).kind ∧ (H.parts[i]!).kind < H.reg.kinds.length
  hours : ∀ i, i < H.parts.length → 0 ≤ (H.parts[i]!).hours ∧ (H.parts[i]!).hours ≤ 100000 + 100 * H.works
  cycles : ∀ i, i < H.parts.length → 0 ≤ (H.parts[i]!).cycles ∧ (H.parts[i]!).cycles ≤ 100000 + 100 * H.works
  sinces : ∀ i j, i < H.parts.length → j < H.reg.orders.length → 0 ≤ (H.parts[i]!).since[j]! ∧ (H.parts[i]!).since[j]! ≤ 100 * H.works
  flowns : ∀ i, i < H.flown.length → 0 ≤ (H.flown[i]!).1 ∧ (H.flown[i]!).1 ≤ 100 * H.works ∧ 0 ≤ (H.flown[i]!).2 ∧ (H.flown[i]!).2 ≤ 100 * H.works
  spot : ∀ i, i < H.parts.length → -2 ≤ (H.parts[i]!).im ∧ (H.parts[i]!).im < H.reg.machines ∧ -2 ≤ (H.parts[i]!).ip ∧ (H.parts[i]!).ip ≤ 4
  /-- what stands in a machine has a stretch that has not ended; its machine and numbers are such as they should be -/
  open' : ∀ i, i < H.parts.length → 0 ≤ (H.parts[i]!).im → H.hist[i]! ≠ []
  hlen : ∀ i, i < H.parts.length → ((H.hist[i]!).length : Int) ≤ H.works
  hok : ∀ i s, i < H.parts.length → s ∈ H.hist[i]! → 0 ≤ s.machine ∧ s.machine < H.reg.machines ∧ 0 ≤ s.hours ∧ s.hours ≤ 20000 ∧ 0 ≤ s.cycles ∧ s.cycles ≤ 20000

/-- The package's two variables. -/
structure Glb (w : World) (B : Nat) : Prop where
  lt : 2 ≤ B
  s0 : w.cell? ⟨1, 0, none⟩ = some (.int .i64 (-1))
  s1 : w.cell? ⟨1, 1, none⟩ = some (.int .i64 (-1))
  c0 : w.cell? ⟨0, 0, none⟩ = some (.int .i64 (-2))
  c1 : w.cell? ⟨0, 1, none⟩ = some (.int .i64 (-2))
theorem Glb.below {w w' : World} {B : Nat} (h : Glb w B) (hb : Below B w w') : Glb w' B :=
  ⟨h.lt, (hb.cell (by have := h.lt; simp only; omega)).trans h.s0, (hb.cell (by have := h.lt; simp only; omega)).trans h.s1, (hb.cell (by have := h.lt; simp only; omega)).trans h.c0, (hb.cell (by have := h.lt; simp only; omega)).trans h.c1⟩
theorem Glb.up {w : World} {B B' : Nat} (h : Glb w B) (hb : B ≤ B') : Glb w B' := ⟨Nat.le_trans h.lt hb, h.s0, h.s1, h.c0, h.c1⟩

/-- The hangar H lies in w as L says; what it writes lies from B on; its register reads below B. -/
structure IsH (w : World) (B : Nat) (L : HL) (H : HS) : Prop where
  glb : Glb w B
  reg : RegRd w B L.ka L.pa L.oa H.reg.kinds.length H.reg.parts.length H.reg.orders.length H.reg
  blocks : ∀ s, okSlot H s → w.heap[L.blk s]? = some (.cells (cellsOf L H s).toArray (tyOf s) (0, 0)) ∧ B ≤ L.blk s
  inj : ∀ s t, okSlot H s → okSlot H t → L.blk s = L.blk t → s = t
  gcap : ∀ i, i < H.parts.length → H.hist[i]! ≠ [] → (H.hist[i]!).length ≤ L.gcap i ∧ L.gcap i ≤ maxLen ∧ (L.gspare i).length = (L.gcap i - (H.hist[i]!).length) * 6
  pcap : 0 < H.parts.length → H.parts.length ≤ L.pcap

theorem cell_blk {w : World} {b : Nat} {c : List Value} {T : TypeId} {f : Nat × Nat} (h : w.heap[b]? = some (.cells c.toArray T f)) (i : Nat) : w.cell? ⟨b, i, none⟩ = c[i]? := by
  simp [World.cell?, h]
theorem frozen_blk {w : World} {b : Nat} {c : List Value} {T : TypeId} (h : w.heap[b]? = some (.cells c.toArray T (0, 0))) (i : Nat) : w.frozen? ⟨b, i, none⟩ = false := by
  simp [World.frozen?, h]
theorem heap_setCell_at {w : World} {b : Nat} {c : List Value} {T : TypeId} {f : Nat × Nat} (h : w.heap[b]? = some (.cells c.toArray T f)) (o : Nat) (v : Value) :
    (w.setCell ⟨b, o, none⟩ v).heap[b]? = some (.cells (c.set o v).toArray T f) := by
  simp [World.setCell, Array.getElem?_modify, h]

variable {w w' : World} {B : Nat} {L : HL} {H : HS}

theorem IsH.lt (h : IsH w B L H) (s : Slot) (hs : okSlot H s) : L.blk s < w.heap.size := (Array.getElem?_eq_some_iff.1 (h.blocks s hs).1).1
theorem IsH.cell (h : IsH w B L H) (s : Slot) (hs : okSlot H s) (i : Nat) : w.cell? ⟨L.blk s, i, none⟩ = (cellsOf L H s)[i]? := cell_blk (h.blocks s hs).1 i
theorem IsH.frozen (h : IsH w B L H) (s : Slot) (hs : okSlot H s) (i : Nat) : w.frozen? ⟨L.blk s, i, none⟩ = false := frozen_blk (h.blocks s hs).1 i

theorem IsH.below (h : IsH w B L H) (hb : Below w.heap.size w w') : IsH w' B L H := by
  have hB : B ≤ w.heap.size := Nat.le_of_lt (Nat.lt_of_le_of_lt (h.blocks .h trivial).2 (h.lt .h trivial))
  exact ⟨h.glb.below (hb.mono hB), h.reg.below (hb.mono hB), fun s hs => ⟨by rw [hb.block _ (h.lt s hs)]; exact (h.blocks s hs).1, (h.blocks s hs).2⟩, h.inj, h.gcap, h.pcap⟩
theorem IsH.base (h : IsH w B L H) : B ≤ w.heap.size := Nat.le_of_lt (Nat.lt_of_le_of_lt (h.blocks .h trivial).2 (h.lt .h trivial))

/-- A store into one of a hangar's blocks. -/
theorem IsH.put (h : IsH w B L H) (s : Slot) (hs : okSlot H s) (o : Nat) (v : Value) {H' : HS} (hreg : H'.reg = H.reg) (hn : H'.parts.length = H.parts.length)
    (hok : ∀ i : Nat, H'.hist[i]! = [] ↔ H.hist[i]! = []) (hs' : cellsOf L H' s = (cellsOf L H s).set o v) (ht : ∀ t, t ≠ s → okSlot H t → cellsOf L H' t = cellsOf L H t)
    (hlen : ∀ i : Nat, (H'.hist[i]!).length = (H.hist[i]!).length) : IsH (w.setCell ⟨L.blk s, o, none⟩ v) B L H' := by
  have okk : ∀ t, okSlot H' t → okSlot H t := by
    intro t ht
    cases t <;> simp only [okSlot, hn] at ht ⊢ <;> first | exact ht | exact ⟨ht.1, fun e => ht.2 ((hok _).2 e)⟩
  have hbel : Below B w (w.setCell ⟨L.blk s, o, none⟩ v) := (Below.refl B w).setCell (p := ⟨L.blk s, o, none⟩) (h.blocks s hs).2 v
  refine ⟨h.glb.below hbel, by rw [hreg]; exact h.reg.below hbel, fun t ht' => ⟨?_, (h.blocks t (okk t ht')).2⟩, fun s t hs ht => h.inj s t (okk s hs) (okk t ht), fun i hi he => ?_, fun hp => by rw [hn]; exact h.pcap (by omega)⟩
  · by_cases e : t = s
    · subst e
      rw [hs']; exact heap_setCell_at (h.blocks t hs).1 o v
    · rw [Below.heap_setCell _ _ _ _ (fun e' => e (h.inj t s (okk t ht') hs e')), ht t e (okk t ht')]
      exact (h.blocks t (okk t ht')).1
  · rw [hlen i]
    exact h.gcap i (by omega) (fun e => he ((hok i).2 e))

end Go.Proofs.YtchnhjffpldpiaaDoor
