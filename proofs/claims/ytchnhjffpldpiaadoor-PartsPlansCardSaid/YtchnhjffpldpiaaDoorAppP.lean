/- append onto nil of a whole slice, whatever its elements. -/
import Derived.Test.YtchnhjffpldpiaaDoorMF
import Derived.Deep.RegionLaw
import Derived.Deep.Upon
namespace Go.Proofs.YtchnhjffpldpiaaDoor
open Go Go.RowKit

theorem flat_inv {α : Type} [Inhabited α] (enc : α → List Value) (k : Nat) (hk : ∀ x, (enc x).length = k) (hk0 : 0 < k) : ∀ (xs : List α) (p : Nat) (u : Value), (xs.flatMap enc)[p]? = some u → p / k < xs.length ∧ (enc xs[p / k]!)[p % k]? = some u := by
  intro xs
  induction xs with
  | nil => intro p u h; simp at h
  | cons x xs ih =>
    intro p u h
    rw [List.flatMap_cons] at h
    by_cases hp : p < k
    · rw [List.getElem?_append_left (by rw [hk]; exact hp)] at h
      rw [Nat.div_eq_of_lt hp, Nat.mod_eq_of_lt hp]
      exact ⟨by simp, by simpa using h⟩
    · rw [List.getElem?_append_right (by rw [hk]; omega), hk] at h
      obtain ⟨h1, h2⟩ := ih _ _ h
      have e1 : p / k = (p - k) / k + 1 := by
        rw [← Nat.add_div_right _ hk0, Nat.sub_add_cancel (by omega)]
      have e2 : p % k = (p - k) % k := by
        rw [← Nat.add_mod_right (p - k) k, Nat.sub_add_cancel (by omega)]
      rw [e1, e2]
      exact ⟨by rw [List.length_cons]; exact Nat.succ_lt_succ h1, by simpa using h2⟩

theorem rd_news {α : Type} [Inhabited α] {enc : α → List Value} {k : Nat} (hk : ∀ x, (enc x).length = k) (hk0 : 0 < k) {w : World} {B : Nat} {a : Option Addr} {n : Nat} {xs : List α} (h : Rd enc k w B a n xs) :
    0 < n → ∃ ad, a = some ad ∧ ∀ p u, (xs.flatMap enc)[p]? = some u → w.cell? (ad.add p) = some u := by
  intro h0
  obtain ⟨b, off, h1, h2⟩ := h.ex
  refine ⟨_, (h1 h0).1, fun p u hu => ?_⟩
  obtain ⟨q1, q2⟩ := flat_inv enc k hk hk0 xs p u hu
  have := h2 (p / k) (by rw [h.len]; exact q1) (p % k) u q2
  rw [Nat.add_assoc, Nat.div_add_mod'] at this
  rw [Addr.add_lit]
  exact this

theorem run_append_nilP {P : Program} (w : World) (t ty e : TypeId) (i : TypeInfo) (z : Value) (size bytes : Nat) (ht : P.underlying t = some (.slice e)) (hi : P.info? e = some i) (hz : i.zero = some z)
    (hsize : i.size = size) (hby : i.bytes = bytes) (hzs : z.cells.size = size) (hsz : 0 < size) (ao : Option Addr) (m c : Nat) (news : List Value) (hl : news.length = m * size)
    (hnews : 0 < m → ∃ ad, ao = some ad ∧ ∀ j u, news[j]? = some u → w.cell? (ad.add j) = some u) (h1 : ∀ u ∈ news, u.oneCell' = true) (hm : m ≤ 1000000) (hb : bytes ≤ 100) :
    ∃ ao' cap w', (Builtin.append_ #[t, t] ty #[.slice none 0 0, .slice ao m c]).run P w = .ok (.slice ao' m cap) w' ∧ w'.ownsRow w.heap.size e size (.slice ao' m cap) m news ∧ w.grownBy w' none := by
  rcases Nat.eq_zero_or_pos m with h0 | h0
  · subst h0
    have : news = [] := by simpa using hl
    subst this
    have hr := run_append_nothing (P := P) w t t ty e i ht hi none 0 0 (Nat.le_refl _) (.slice ao 0 c) ⟨.inl ⟨e, ht⟩, fun _ => rfl, by cases ao <;> simp [Builtin.firstCells, loadCells, go_sem], by cases ao <;> simp [Builtin.firstCells, loadCells, go_sem], by simp, fun u hu => by cases hu⟩
    exact ⟨none, 0, w, hr, World.ownsRow_nil _ _ _ _, ⟨rfl, rfl, rfl, Nat.le_refl _, fun _ _ _ => rfl⟩⟩
  · obtain ⟨ad, rfl, hn⟩ := hnews h0
    have hbb : (0 + m) * bytes ≤ 140737488355328 := by
      have : (0 + m) * bytes ≤ 1000000 * 100 := Nat.mul_le_mul (by omega) hb
      omega
    obtain ⟨g, cap, w', hr, h2, h3, _⟩ := run_append_lies (P := P) (w := w) t ty w.heap.size e i z size bytes ht hi hz hsize hby hzs hsz (.slice none 0 0) 0 [] (World.ownsRow_nil _ _ _ _) ad m c news hl hn h1 h0 (by simp only [maxLen]; omega) hbb (Nat.le_refl _) _ rfl
    rw [Nat.zero_add] at hr h2
    rw [List.nil_append] at h2
    exact ⟨_, cap, w', hr, h2, h3⟩

/-- The same at a step of a region that draws its order. -/
theorem step_append_nilP {P : Program} (w : World) {ops : Array Oper} {o : Oper} {a : Act} {K : Act → World → Prop} {Q : Exit → Act → World → Prop} {G : Prop} (hgd : o.guard = none) (s x : Operand) (t : TypeId)
    (ho : o.op = .call { callee := .builtin .append, args := #[s, x], argTypes := #[t, t] }) (e : TypeId) (i : TypeInfo) (z : Value) (size bytes : Nat) (ht : P.underlying t = some (.slice e)) (hi : P.info? e = some i) (hz : i.zero = some z)
    (hsize : i.size = size) (hby : i.bytes = bytes) (hzs : z.cells.size = size) (hsz : 0 < size) (hv : a.eval s = .slice none 0 0) (ao : Option Addr) (m c : Nat) (hx' : a.eval x = .slice ao m c) (news : List Value) (hl : news.length = m * size)
    (hnews : 0 < m → ∃ ad, ao = some ad ∧ ∀ j u, news[j]? = some u → w.cell? (ad.add j) = some u) (h1 : ∀ u ∈ news, u.oneCell' = true) (hm : m ≤ 1000000) (hb : bytes ≤ 100)
    (hk : ∀ ao' cap w', w'.ownsRow w.heap.size e size (.slice ao' m cap) m news → w.grownBy w' none → K (a.put o.dst (.slice ao' m cap)) w') :
    if Region.wanted o (yielded ops a.tmps) = true then Oper.wp P o a w K Q else G := by
  have hw : Region.wanted o (yielded ops a.tmps) = true := by simp [Region.wanted, hgd]
  rw [if_pos hw]
  obtain ⟨ao', cap, w', hr, h2, h3⟩ := run_append_nilP (P := P) w t o.type e i z size bytes ht hi hz hsize hby hzs hsz ao m c news hl hnews h1 hm hb
  unfold Oper.wp execOp
  simp only [ho, resolve, invoke, builtin, Sem.run_bind, Sem.run_pure, Result.andThen_ok, List.map_toArray, List.map_cons, List.map_nil, hv, hx', hr]
  exact hk ao' cap w' h2 h3
theorem flat_one {α : Type} (enc : α → List Value) (h : ∀ x, ∀ u ∈ enc x, u.oneCell' = true) (xs : List α) : ∀ u ∈ xs.flatMap enc, u.oneCell' = true := by
  intro u hu
  obtain ⟨x, _, hx⟩ := List.mem_flatMap.1 hu
  exact h x u hx
theorem one_pair (x : Int × Int) : ∀ u ∈ encPair x, u.oneCell' = true := by
  intro u hu; simp [encPair] at hu; rcases hu with rfl | rfl <;> rfl
theorem row_up {w : World} {b b' : Nat} {e : TypeId} {size : Nat} {v : Value} {n : Nat} {xs : List Value} (h : w.ownsRow b' e size v n xs) (hb : b ≤ b') : w.ownsRow b e size v n xs :=
  ⟨h.1, h.2.imp id fun ⟨g, cap, cur, h1, h2, h3⟩ => ⟨g, cap, cur, h1, Nat.le_trans hb h2, h3⟩⟩
theorem flat_lenP : ∀ A : List (Int × Int), (A.flatMap encPair).length = A.length * 2 := by
  intro A
  induction A with
  | nil => rfl
  | cons a A ih => rw [List.flatMap_cons, List.length_append, ih]; simp [encPair]; omega
/-- A list of pairs that a call has laid behind the world w0. -/
def NewP (E : TypeId) (w0 W : World) (v : Value) (n : Nat) (xs : List (Int × Int)) : Prop := W.ownsRow w0.heap.size E 2 v n (xs.flatMap encPair) ∧ Below w0.heap.size w0 W
theorem NewP.mk0 {E : TypeId} {w0 W w1 : World} {v : Value} {n : Nat} {xs : List (Int × Int)} (hb : Below w0.heap.size w0 W) (h : w1.ownsRow W.heap.size E 2 v n (xs.flatMap encPair)) (G : W.grownBy w1 none) : NewP E w0 w1 v n xs :=
  ⟨row_up h hb.size, hb.grown G hb.size (fun k e => by cases e)⟩
theorem NewP.alloc {E : TypeId} {w0 W : World} {v : Value} {n : Nat} {xs : List (Int × Int)} (h : NewP E w0 W v n xs) (o : Obj) : NewP E w0 (W.alloc o) v n xs := ⟨h.1.alloc o, h.2.alloc h.2.size o⟩
theorem NewP.grow {E : TypeId} {w0 W w1 : World} {v v' : Value} {n : Nat} {xs : List (Int × Int)} {x : Int × Int} (h : NewP E w0 W v n xs) (G : W.grownBy w1 v.ownBlock) (ho : w1.ownsRow w0.heap.size E 2 v' (n + 1) (xs.flatMap encPair ++ encPair x)) : NewP E w0 w1 v' (n + 1) (xs ++ [x]) :=
  ⟨by simpa [List.flatMap_append] using ho, h.2.grown G h.2.size (fun k e => (h.1.lt k e).1)⟩
theorem NewP.rd {E : TypeId} {w0 W : World} {ao : Option Addr} {n cap : Nat} {xs : List (Int × Int)} (h : NewP E w0 W (.slice ao n cap) n xs) (hn : n = xs.length) (hl : n ≤ 1000000) : Rd encPair 2 W W.heap.size ao n xs := by
  subst hn
  obtain ⟨a, c, e, hr⟩ := rd_row h.1 hl
  cases e
  exact hr
end Go.Proofs.YtchnhjffpldpiaaDoor
