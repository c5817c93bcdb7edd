/- The program's hangar as plain functions on Lean data. No walk, no memory. -/
import Derived.Test.YtchnhjffpldpiaaDoorModel
namespace Go.Proofs.YtchnhjffpldpiaaDoor
open Go.RowKit

/-- Checks of a register, as the program makes them. -/
def badKind (k : KindR) : Bool := !inB k.hours 1 100000 || !inB k.cycles 1 100000 || !inB k.places 0 4
def badPart (nk : Nat) (p : PartR) : Bool := !inB p.kind 0 ((nk : Int) - 1) || !inB p.hours 0 100000 || !inB p.cycles 0 100000
def badOrder (nk : Nat) (o : OrderR) : Bool := !inB o.kind 0 ((nk : Int) - 1) || !inB o.within 0 100000
def validReg (r : RegR) : Bool :=
  !(decide (6 < (r.kinds.length : Int)) || decide (24 < (r.parts.length : Int)) || decide (6 < (r.orders.length : Int)) || !inB r.machines 0 4) &&
  (!r.kinds.any badKind && !r.parts.any (badPart r.kinds.length) && !r.orders.any (badOrder r.kinds.length))


/-- A new part in the store. -/
def PS.of (no : Nat) (p : PartR) : PS := { kind := p.kind, hours := p.hours, cycles := p.cycles, known := p.known, im := -1, ip := -1, since := List.replicate no 0, chk := List.replicate no false }
def newHS (r : RegR) : HS :=
  { reg := r, parts := r.parts.map (PS.of r.orders.length), issued := List.replicate r.orders.length false, flown := List.replicate r.machines.toNat (0, 0), works := 0, hist := List.replicate r.parts.length [] }

def isAt (kind m pl : Int) (q : PS) : Bool := q.kind == kind && (q.im == m && q.ip == pl)
def HS.at (H : HS) (kind m pl : Int) : Int := idxFrom (isAt kind m pl) H.parts 0
def HS.machine (H : HS) (n : Int) : Bool := inB n 0 (H.reg.machines - 1)
def HS.part (H : HS) (n : Int) : Bool := inB n 0 ((H.parts.length : Int) - 1)
def HS.order (H : HS) (n : Int) : Bool := inB n 0 ((H.reg.orders.length : Int) - 1)

def lacksOf (H : HS) (m : Int) (k : Nat) (n : Nat) : List (Int × Int) :=
  ((List.range n).filter fun (pl : Nat) => decide (H.at k m pl < 0)).map fun (pl : Nat) => ((k : Int), (pl : Int))
def lacksUpTo (H : HS) (m : Int) (k : Nat) : List (Int × Int) := (List.range k).flatMap fun k => lacksOf H m k (H.reg.kinds[k]!).places.toNat
def HS.lacks (H : HS) (m : Int) : List (Int × Int) := lacksUpTo H m H.reg.kinds.length

def leftGo (kind : Int) : List OrderR → List Bool → List Bool → List Int → Int → Int
  | o :: os, b :: bs, c :: cs, s :: ss, h => leftGo kind os bs cs ss (if b && (o.kind == kind && !c) then min h (o.within - s) else h)
  | _, _, _, _, h => h
def HS.left (H : HS) (p : PS) : Int × Int :=
  let k := H.reg.kinds[p.kind.toNat]!
  (leftGo p.kind H.reg.orders H.issued p.chk p.since (k.hours - p.hours), k.cycles - p.cycles)

def longGo (H : HS) (m cyc : Int) : List PS → Int → Int
  | [], most => most
  | p :: ps, most => if p.im = m then (if (H.left p).2 < cyc then -1 else longGo H m cyc ps (min most (H.left p).1)) else longGo H m cyc ps most
def HS.longest (H : HS) (m cyc : Int) : Int := if (H.lacks m).length > 0 then -1 else longGo H m cyc H.parts 100

def flySince (hours : Int) (issued : List Bool) (since : List Int) : List Int := List.zipWith (fun b s => if b then s + hours else s) issued since
def flyPart (H : HS) (m hours cyc : Int) (p : PS) : PS :=
  if p.im = m then { p with hours := p.hours + hours, cycles := p.cycles + cyc, since := flySince hours H.issued p.since } else p
def addFlown (l : List (Int × Int)) (m : Nat) (hours cyc : Int) : List (Int × Int) := l.set m ((l[m]!).1 + hours, (l[m]!).2 + cyc)
def flyGuard (H : HS) (m hours cyc : Int) : Bool := H.machine m && (inB hours 0 100 && (inB cyc 0 100 && decide (hours ≤ H.longest m cyc)))
def HS.fly (H : HS) (m hours cyc : Int) : Option HS :=
  if flyGuard H m hours cyc then some { H with parts := H.parts.map (flyPart H m hours cyc), flown := addFlown H.flown m.toNat hours cyc } else none

def fitGuard (H : HS) (n m pl : Int) : Bool :=
  H.part n && (H.machine m && (let p := H.parts[n.toNat]!
    (p.im == -1 && p.ip == -1) && (p.known && (inB pl 0 ((H.reg.kinds[p.kind.toNat]!).places - 1) && decide (H.at p.kind m pl < 0)))))
def HS.fit (H : HS) (n m pl : Int) : Option HS :=
  if fitGuard H n m pl then
    some { H with
      parts := H.parts.set n.toNat { H.parts[n.toNat]! with im := m, ip := pl }
      hist := H.hist.set n.toNat (H.hist[n.toNat]! ++ [⟨m, pl, H.works, -1, (H.flown[m.toNat]!).1, (H.flown[m.toNat]!).2⟩]) }
  else none

/-- The last stretch of a history ended. -/
def endLast (flown : List (Int × Int)) (to : Int) (l : List StretchR) : List StretchR :=
  let s := l[l.length - 1]!
  l.set (l.length - 1) { s with stop := to, hours := (flown[s.machine.toNat]!).1 - s.hours, cycles := (flown[s.machine.toNat]!).2 - s.cycles }

def checkGuard (H : HS) (n o : Int) : Bool :=
  H.part n && (H.order o && (H.issued[o.toNat]! && (let p := H.parts[n.toNat]!
    p.kind == (H.reg.orders[o.toNat]!).kind && !p.chk[o.toNat]!)))
def HS.check (H : HS) (n o : Int) : Option HS :=
  if checkGuard H n o then some { H with parts := H.parts.set n.toNat { H.parts[n.toNat]! with chk := (H.parts[n.toNat]!).chk.set o.toNat true } } else none

def HS.take (H : HS) (n : Int) : Option HS :=
  if H.part n && decide (0 ≤ (H.parts[n.toNat]!).im) then
    some { H with
      parts := H.parts.set n.toNat { H.parts[n.toNat]! with im := -1, ip := -1 }
      hist := H.hist.set n.toNat (endLast H.flown H.works H.hist[n.toNat]!) }
  else none
def HS.issue (H : HS) (o : Int) : Option HS :=
  if H.order o && !H.issued[o.toNat]! then some { H with issued := H.issued.set o.toNat true } else none
def HS.scrap (H : HS) (n : Int) : Option HS :=
  if H.part n && ((H.parts[n.toNat]!).im == -1 && (H.parts[n.toNat]!).ip == -1) then some { H with parts := H.parts.set n.toNat { H.parts[n.toNat]! with im := -2, ip := -2 } } else none

def HS.doWork (H : HS) (x : WorkR) : Option HS :=
  if x.kind = 1 then H.fly x.a x.b x.c
  else if x.kind = 2 then H.fit x.a x.b x.c
  else if x.kind = 5 then (if x.c = 0 then H.check x.a x.b else none)
  else if x.kind = 3 then (if x.b = 0 ∧ x.c = 0 then H.take x.a else none)
  else if x.kind = 4 then (if x.b = 0 ∧ x.c = 0 then H.issue x.a else none)
  else if x.kind = 6 then (if x.b = 0 ∧ x.c = 0 then H.scrap x.a else none)
  else none

/-- All works; the first that is not possible. -/
def runWorks : HS → List WorkR → Nat → HS ⊕ Nat
  | H, [], _ => .inl H
  | H, x :: xs, i => match H.doWork x with
    | some H' => runWorks { H' with works := H'.works + 1 } xs (i + 1)
    | none => .inr i
/-- What 'open' answers: a hangar, or where and with which error it stops. -/
def openH (r : RegR) (l : List WorkR) : HS ⊕ (Int × Int) :=
  if validReg r then
    if l.length ≤ 200 then
      match runWorks (newHS r) l 0 with
      | .inl H => .inl H
      | .inr i => .inr (i, 91)
    else .inr (0, 2)
  else .inr (0, 90)

end Go.Proofs.YtchnhjffpldpiaaDoor
