/- The data of chapter 09 as Lean data; how a slice in memory reads. No walk. -/
import Derived.Test.YtchnhjffpldpiaaDoorBase
import Derived.Lib.Hide
namespace Go.Proofs.YtchnhjffpldpiaaDoor
open Go.RowKit

structure KindR where
  hours : Int
  cycles : Int
  places : Int
deriving Inhabited, DecidableEq
structure PartR where
  kind : Int
  hours : Int
  cycles : Int
  known : Bool
deriving Inhabited, DecidableEq
structure OrderR where
  kind : Int
  within : Int
deriving Inhabited, DecidableEq
structure WorkR where
  kind : Int
  a : Int
  b : Int
  c : Int
deriving Inhabited, DecidableEq
structure SpanR where
  low : Int
  high : Int
deriving Inhabited, DecidableEq
structure StretchR where
  machine : Int
  place : Int
  start : Int
  stop : Int
  hours : Int
  cycles : Int
deriving Inhabited, DecidableEq
structure RegR where
  kinds : List KindR
  parts : List PartR
  machines : Int
  orders : List OrderR
deriving Inhabited, DecidableEq

/-- A part as it stands in the program's hangar. -/
structure PS where
  kind : Int
  hours : Int
  cycles : Int
  known : Bool
  im : Int
  ip : Int
  since : List Int
  chk : List Bool
deriving Inhabited, DecidableEq
/-- The program's hangar. -/
structure HS where
  reg : RegR
  parts : List PS
  issued : List Bool
  flown : List (Int × Int)
  works : Int
  hist : List (List StretchR)
deriving Inhabited, DecidableEq

abbrev iv (n : Int) : Value := .int .i64 n
def encInt (n : Int) : List Value := [.int .i64 n]
def encBool (b : Bool) : List Value := [.bool b]
def encPtr (x : Nat × PS) : List Value := [.pointer (some ⟨x.1, 0, none⟩)]
def encPair (p : Int × Int) : List Value := [.int .i64 p.1, .int .i64 p.2]
def encKind (k : KindR) : List Value := [.int .i64 k.hours, .int .i64 k.cycles, .int .i64 k.places]
def encPart (p : PartR) : List Value := [.int .i64 p.kind, .int .i64 p.hours, .int .i64 p.cycles, .bool p.known]
def encOrder (o : OrderR) : List Value := [.int .i64 o.kind, .int .i64 o.within]
def encWork (x : WorkR) : List Value := [.int .i64 x.kind, .int .i64 x.a, .int .i64 x.b, .int .i64 x.c]
def encSpan (x : SpanR) : List Value := [.int .i64 x.low, .int .i64 x.high]
def encStretch (x : StretchR) : List Value := [.int .i64 x.machine, .int .i64 x.place, .int .i64 x.start, .int .i64 x.stop, .int .i64 x.hours, .int .i64 x.cycles]

/-- A slice (address a, length n) reads as xs: k cells an element; its cells lie in blocks below B. -/
structure Rd {α : Type} [Inhabited α] (enc : α → List Value) (k : Nat) (w : World) (B : Nat) (a : Option Addr) (n : Nat) (xs : List α) : Prop where
  len : n = xs.length
  big : n ≤ 9223372036854775807
  ex : ∃ b off, (0 < n → a = some ⟨b, off, none⟩ ∧ b < B) ∧ ∀ j, j < n → ∀ i u, (enc xs[j]!)[i]? = some u → w.cell? ⟨b, off + j * k + i, none⟩ = some u

theorem Rd.below {α : Type} [Inhabited α] {enc : α → List Value} {k : Nat} {w w' : World} {B : Nat} {a : Option Addr} {n : Nat} {xs : List α}
    (h : Rd enc k w B a n xs) (hb : Below B w w') : Rd enc k w' B a n xs := by
  obtain ⟨b, off, h1, h2⟩ := h.ex
  refine ⟨h.len, h.big, b, off, h1, fun j hj i u hu => ?_⟩
  rw [hb.cell (p := ⟨b, off + j * k + i, none⟩) (h1 (by omega)).2]
  exact h2 j hj i u hu

theorem Rd.up {α : Type} [Inhabited α] {enc : α → List Value} {k : Nat} {w : World} {B B' : Nat} {a : Option Addr} {n : Nat} {xs : List α}
    (h : Rd enc k w B a n xs) (hB : B ≤ B') : Rd enc k w B' a n xs := by
  obtain ⟨b, off, h1, h2⟩ := h.ex
  exact ⟨h.len, h.big, b, off, fun hn => ⟨(h1 hn).1, Nat.lt_of_lt_of_le (h1 hn).2 hB⟩, h2⟩

/-- The index of the first element of which p holds, from k on; -1: there is none. -/
def idxFrom {α : Type} (p : α → Bool) : List α → Int → Int
  | [], _ => -1
  | x :: xs, k => if p x then k else idxFrom p xs (k + 1)

theorem idxFrom_drop {α : Type} [Inhabited α] (p : α → Bool) (zs : List α) (kk : Nat) (h : kk < zs.length) :
    idxFrom p (zs.drop kk) kk = if p zs[kk]! then (kk : Int) else idxFrom p (zs.drop (kk + 1)) ((kk + 1 : Nat) : Int) := by
  rw [List.drop_eq_getElem_cons h, getElem!_pos zs kk h]
  rfl

theorem idxFrom_nonneg {α : Type} (p : α → Bool) (zs : List α) : ∀ (k : Int), 0 ≤ k → (0 ≤ idxFrom p zs k ↔ zs.any p = true) := by
  induction zs with
  | nil => intro k _; simp [idxFrom]
  | cons x xs ih =>
    intro k h0
    have h := ih (k + 1) (by omega)
    unfold idxFrom
    by_cases hx : p x = true
    · simp [hx, h0]
    · rw [if_neg hx, h]; simp [hx]

theorem idxFrom_ge {α : Type} (p : α → Bool) (zs : List α) (k : Int) (h0 : 0 ≤ k) : decide (0 ≤ idxFrom p zs k) = zs.any p := by
  rw [Bool.eq_iff_iff, decide_eq_true_iff]
  exact idxFrom_nonneg p zs k h0

theorem idxFrom_map {α β : Type} (f : α → β) (p : β → Bool) (zs : List α) : ∀ (k : Int), idxFrom (fun x => p (f x)) zs k = idxFrom p (zs.map f) k := by
  induction zs with
  | nil => intro k; rfl
  | cons x xs ih => intro k; simp only [idxFrom, List.map_cons, ih]

/-- What is asked of a predicate over the elements of a slice: it may make memory. -/
def PredOn (P : Program) {α : Type} [Inhabited α] (val : α → Value) (g : Nat) (lb : Array Value) (p : α → Bool) (xs : List α) (w : World) : Prop :=
  ∀ j, j < xs.length → ∀ W, Below w.heap.size w W → Calls P g (#[val xs[j]!] ++ lb) W fun e w' => e = .returned (.bool (p xs[j]!)) ∧ Below W.heap.size W w'

end Go.Proofs.YtchnhjffpldpiaaDoor
