/- swashplatelaw09.works: the examples of the chapter come out. -/
import Derived.Test.YtchnhjffpldpiaaDoorEx
namespace Go.Proofs.YtchnhjffpldpiaaDoor
open Go.RowKit

variable {r : RegR} {l : List WorkR} {ka pa oa la : Option Addr} {nk kc np pc no oc nl lc : Nat} {w : World} {B : Nat}

theorem Longest_any (h : Given w B ka pa oa la nk np no nl r l) (m c : Int) (p : Int × Int) (hp : longestR (openH r l) m c = p) (mm : Int) (hm : r.machines = mm) :
    Calls Tryd.prog 23 #[.agg #[.slice ka nk kc, .slice pa np pc, .int .i64 mm, .slice oa no oc], .slice la nl lc, .int .i64 m, .int .i64 c] w fun e w' =>
      e = .returned (.tuple #[.int .i64 p.1, .int .i64 p.2]) ∧ Below w.heap.size w w' := by
  subst hm
  cases ho : openH r l with
  | inl H => rw [ho] at hp; exact longest_ok h m c ho p hp
  | inr q =>
    obtain ⟨i, er⟩ := q
    rw [ho] at hp
    subst hp
    exact longest_err h m c ho

/-- What Cycles leaves: its list lies in the world behind. -/
def CycRd (w w' : World) (v : Value) (cs : List (Int × Int)) : Prop :=
  ∃ a c, v = .slice a cs.length c ∧ Rd encPair 2 w' w'.heap.size a cs.length cs ∧ Below w.heap.size w w'

theorem rd_row {w : World} {base : Nat} {e : TypeId} {v : Value} {cs : List (Int × Int)} (h : w.ownsRow base e 2 v cs.length (cs.flatMap encPair)) (hl : cs.length ≤ 1000000) : ∃ a c, v = .slice a cs.length c ∧ Rd encPair 2 w w.heap.size a cs.length cs := by
  rcases h.2 with ⟨h1, h2⟩ | ⟨g, cap, cur, h1, _, h3, _, _, _, h7⟩
  · exact ⟨none, 0, by rw [h1, h2], rfl, by omega, 0, 0, fun h => by omega, fun j hj => by omega⟩
  · refine ⟨_, cap, h1, rfl, by omega, g, 0, fun _ => ⟨rfl, (Array.getElem?_eq_some_iff.1 h3).1⟩, fun j hj i u hu => ?_⟩
    have h8 := flat_cells encPair 2 (fun _ => rfl) cs j i u hj hu
    rw [← h7] at h8
    have hlt := (List.getElem?_eq_some_iff.1 h8).1
    rw [List.getElem?_take_of_lt (by rw [List.length_take] at hlt; omega)] at h8
    simp only [World.cell?, h3, Nat.zero_add]
    simpa using h8

theorem Cycles_any (zs : List Int) (a : Option Addr) (n c : Nat) (w : World) (B : Nat) (hB : B ≤ w.heap.size) (hR : Rd encInt 1 w B a n zs) (cs : List (Int × Int)) (hcs : cycP zs = cs) (nc : Nat) (hnc : cs.length = nc) (he : seriesE zs = 0) :
    Calls Tryd.prog 19 #[.slice a n c] w fun e w' => ∃ a' c', e = .returned (.tuple #[.slice a' nc c', .int .i64 0]) ∧ Rd encPair 2 w' w'.heap.size a' nc cs ∧ Below w.heap.size w w' := by
  subst hcs
  subst hnc
  refine (cycles_ok zs a n c w B hB hR he).mono ?_
  rintro e w' ⟨v, rfl, hr, _, hb⟩
  have hl : (cycP zs).length ≤ 1000000 := by have := cycP_len zs; have := (loads_of he).1; omega
  obtain ⟨a', c', rfl, h⟩ := rd_row hr hl
  exact ⟨a', c', rfl, h, hb⟩

theorem samePairs_q (xs ys : List (Int × Int)) (a a2 : Option Addr) (n c n2 c2 : Nat) (w : World) (B : Nat) (hB : B ≤ w.heap.size) (h1 : Rd encPair 2 w B a n xs) (h2 : Rd encPair 2 w B a2 n2 ys) (b : Bool) (hb : decide (xs = ys) = b) :
    Calls Tryd.prog 21 #[.slice a n c, .slice a2 n2 c2] w fun e w' => e = .returned (.bool b) ∧ Below w.heap.size w w' := by
  subst hb; exact samePairs_any xs ys a a2 n c n2 c2 w B hB h1 h2

set_option maxRecDepth 100000 in
set_option maxHeartbeats 2000000 in
theorem works_any (w : World) (hG : Glb w w.heap.size) :
    Calls Tryd.prog 18 #[] w fun e w' => e = .returned (.bool true) ∧ Below w.heap.size w w' := by
  have HG := Lib.hid hG
  clear hG
  go_enter Tryd.func18, Tryd.ntmps18
  go_wp2_with (first
    | (go_at_call 61; refine (example_any _).mono ?_; rintro e w1 ⟨ka, pa, oa, la, rfl, hr, hl, hb⟩; have G1 := Lib.hid (And.intro hr (And.intro hl hb)); clear hr hl hb))
  have hb1 := G1.out.2.2
  have gv : Given (w1.alloc (.cells #[.slice ka 2 2, .slice pa 4 4, .int .i64 1, .slice oa 1 1] 38)) w1.heap.size ka pa oa la 2 4 1 4 exR exL :=
    ⟨by rw [World.size_alloc]; omega, ((HG.out.below hb1).up hb1.size).below ((Below.refl _ _).alloc (Nat.le_refl _) _), G1.out.1.below ((Below.refl _ _).alloc (Nat.le_refl _) _), G1.out.2.1.below ((Below.refl _ _).alloc (Nat.le_refl _) _)⟩
  have GV := Lib.hid gv
  have HB1 := Lib.hid hb1
  clear gv hb1 G1 HG
  go_wp2_with (go_at_call 23; refine (Longest_any GV.out 0 2 (6, 0) ex_longest 1 rfl).mono ?_; rintro e w3 ⟨rfl, hb3⟩; have HB3 := Lib.hid hb3; clear hb3)
  have rd5 : Rd encInt 1 (w3.alloc (.cells #[.int .i64 0, .int .i64 5, .int .i64 2, .int .i64 4, .int .i64 1, .int .i64 6, .int .i64 0] 3)) (w3.heap.size + 1) (some ⟨w3.heap.size, 0, none⟩) 7 [0, 5, 2, 4, 1, 6, 0] :=
    rd_block (enc := encInt) (k := 1) (xs := [0, 5, 2, 4, 1, 6, 0]) (cs := #[.int .i64 0, .int .i64 5, .int .i64 2, .int .i64 4, .int .i64 1, .int .i64 6, .int .i64 0]) (b := w3.heap.size) (fun _ => rfl) (heap_alloc_new w3 _) rfl (Nat.lt_succ_self _) 7 rfl (by omega)
  have RD5 := Lib.hid rd5
  clear rd5
  go_wp2_with (go_at_call 19; refine (Cycles_any [0, 5, 2, 4, 1, 6, 0] _ 7 7 _ (w3.heap.size + 1) (by rw [World.size_alloc]; omega) RD5.out _ ex_cycles 4 rfl ex_series).mono ?_; rintro e w4 ⟨a4, c4, rfl, hr4, hb4⟩; have HR4 := Lib.hid hr4; have HB4 := Lib.hid hb4; clear hr4 hb4)
  have rd6 : Rd encPair 2 (w4.alloc (.cells #[.int .i64 2, .int .i64 2, .int .i64 4, .int .i64 2, .int .i64 6, .int .i64 1, .int .i64 6, .int .i64 1] 30)) (w4.heap.size + 1) (some ⟨w4.heap.size, 0, none⟩) 4 [(2, 2), (4, 2), (6, 1), (6, 1)] :=
    rd_block (enc := encPair) (k := 2) (xs := [(2, 2), (4, 2), (6, 1), (6, 1)]) (cs := #[.int .i64 2, .int .i64 2, .int .i64 4, .int .i64 2, .int .i64 6, .int .i64 1, .int .i64 6, .int .i64 1]) (b := w4.heap.size) (fun _ => rfl) (heap_alloc_new w4 _) rfl (Nat.lt_succ_self _) 4 rfl (by omega)
  have RD6 := Lib.hid rd6
  have rd7 : Rd encPair 2 (w4.alloc (.cells #[.int .i64 2, .int .i64 2, .int .i64 4, .int .i64 2, .int .i64 6, .int .i64 1, .int .i64 6, .int .i64 1] 30)) (w4.heap.size + 1) a4 4 [(2, 2), (4, 2), (6, 1), (6, 1)] :=
    (HR4.out.below ((Below.refl _ _).alloc (Nat.le_refl _) _)).up (Nat.le_succ _)
  have RD7 := Lib.hid rd7
  clear rd6 rd7
  go_wp2_with (go_at_call 21; refine (samePairs_q _ _ _ _ 4 _ 4 _ _ (w4.heap.size + 1) (by rw [World.size_alloc]; omega) RD7.out RD6.out true (by decide)).mono ?_; rintro e w5 ⟨rfl, hb5⟩; have HB5 := Lib.hid hb5; clear hb5)
  go_ret
  refine ⟨rfl, ?_⟩
  have z1 := HB1.out.size
  have b3 := HB3.out
  have z3 := b3.size
  have b4 := HB4.out
  have z4 := b4.size
  have b5 := HB5.out
  rw [World.size_alloc] at z3 z4
  have c1 : Below w.heap.size w (w1.alloc (.cells #[.slice ka 2 2, .slice pa 4 4, .int .i64 1, .slice oa 1 1] 38)) := HB1.out.alloc z1 _
  have c3 := c1.trans (b3.mono (by rw [World.size_alloc]; omega))
  have c4 := (c3.alloc (by omega) (.cells #[.int .i64 0, .int .i64 5, .int .i64 2, .int .i64 4, .int .i64 1, .int .i64 6, .int .i64 0] 3)).trans (b4.mono (by rw [World.size_alloc]; omega))
  exact (c4.alloc (by omega) _).trans (b5.mono (by rw [World.size_alloc]; omega))
end Go.Proofs.YtchnhjffpldpiaaDoor
