/- append onto nil, of a part of a slice of integers. -/
import Derived.Test.YtchnhjffpldpiaaDoorMB
import Derived.Deep.RegionLaw
namespace Go.Proofs.YtchnhjffpldpiaaDoor
open Go Go.RowKit

variable {E : TypeId} {B : Nat} {xs : List Int}

theorem run_append_nilI {P : Program} (w : World) (t ty : TypeId) (i : TypeInfo) (ht : P.underlying t = some (.slice E)) (hi : P.info? E = some i) (hz : i.zero = some (.int .i64 0)) (hs : i.size = 1) (hb : i.bytes = 8)
    (hB : B ≤ w.heap.size) (ab ao m c : Nat) (hm : m = xs.length) (hm0 : 0 < m) (hx : ∀ j, j < m → w.cell? ⟨ab, ao + j, none⟩ = some (.int .i64 xs[j]!)) (hl : m ≤ 1000000) :
    ∃ g off cap w', (Builtin.append_ #[t, t] ty #[.slice none 0 0, .slice (some ⟨ab, ao, none⟩) m c]).run P w = .ok (.slice (some ⟨g, off, none⟩) m cap) w' ∧
      OwnI E w' B (.slice (some ⟨g, off, none⟩) m cap) xs ∧ w.grownBy w' none ∧ w.heap.size ≤ g := by
  have hnews : ∀ j u, (xs.map (Value.int .i64))[j]? = some u → w.cell? ((⟨ab, ao, none⟩ : Addr).add j) = some u := by
    intro j u hu
    obtain ⟨hj, rfl⟩ := map_cells xs j u hu
    rw [Addr.add_lit]
    exact hx j (by omega)
  have one : ∀ u ∈ xs.map (Value.int .i64), u.oneCell' = true := by
    intro u hu
    obtain ⟨x, _, rfl⟩ := List.mem_map.1 hu
    rfl
  obtain ⟨v', w1, hr, r1, r2, _, r3⟩ := run_append_own_at (P := P) w w.heap.size t ty E i (.int .i64 0) 1 8 ht hi hz hs hb rfl (by decide) (.slice none 0 0) 0 [] (World.ownsRow_nil w _ E 1) ⟨ab, ao, none⟩ m c (xs.map (Value.int .i64)) (by rw [List.length_map, ← hm, Nat.mul_one]) hnews one (by simp only [maxLen]; omega) (by omega) (Nat.le_refl _)
  have ho' : w1.ownsRow w.heap.size E 1 v' xs.length (xs.map (Value.int .i64)) := by rw [← hm]; simpa using r1
  have ho := OwnI.of_row ho' (by omega)
  obtain ⟨g, off, cap, e, _⟩ := ho.form (by intro e; rw [e] at hm; simp at hm; omega)
  rw [← hm] at e
  refine ⟨g, off, cap, w1, by rw [hr, e], by rw [← e]; exact ho.up hB, r2, ?_⟩
  rcases r3 with r3 | r3
  · rw [e] at r3; cases r3
  · rw [e] at r3; exact Nat.le_of_eq (by simpa [Value.ownBlock] using r3.symm)

theorem step_append_nilI {P : Program} (w : World) {ops : Array Oper} {o : Oper} {a : Act} {K : Act → World → Prop} {Q : Exit → Act → World → Prop} {G : Prop} (hgd : o.guard = none) (s x : Operand) (t : TypeId)
    (ho : o.op = .call { callee := .builtin .append, args := #[s, x], argTypes := #[t, t] }) (i : TypeInfo) (ht : P.underlying t = some (.slice E)) (hi : P.info? E = some i) (hz : i.zero = some (.int .i64 0)) (hs : i.size = 1) (hb : i.bytes = 8)
    (hv : a.eval s = .slice none 0 0) (hB : B ≤ w.heap.size) (ab ao m c : Nat) (xs : List Int) (hx' : a.eval x = .slice (some ⟨ab, ao, none⟩) m c) (hm : m = xs.length) (hm0 : 0 < m) (hx : ∀ j, j < m → w.cell? ⟨ab, ao + j, none⟩ = some (.int .i64 xs[j]!)) (hl : m ≤ 1000000)
    (hk : ∀ g off cap w', OwnI E w' B (.slice (some ⟨g, off, none⟩) m cap) xs → w.grownBy w' none → w.heap.size ≤ g → K (a.put o.dst (.slice (some ⟨g, off, none⟩) m cap)) w') :
    if Region.wanted o (yielded ops a.tmps) = true then Oper.wp P o a w K Q else G := by
  have hw : Region.wanted o (yielded ops a.tmps) = true := by simp [Region.wanted, hgd]
  rw [if_pos hw]
  obtain ⟨g, off, cap, w', hr, h2, h3, h4⟩ := run_append_nilI (P := P) (B := B) w t o.type i ht hi hz hs hb hB ab ao m c hm hm0 hx hl
  unfold Oper.wp execOp
  simp only [ho, resolve, invoke, builtin, Sem.run_bind, Sem.run_pure, Result.andThen_ok, List.map_toArray, List.map_cons, List.map_nil, hv, hx', hr]
  exact hk g off cap w' h2 h3 h4
end Go.Proofs.YtchnhjffpldpiaaDoor
