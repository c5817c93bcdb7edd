/- The turning points as the reference reckons them are those of the program. No program. -/
import Derived.Test.YtchnhjffpldpiaaDoorMB
namespace Go.Proofs.YtchnhjffpldpiaaDoor

def keepA (zs : List Int) (i : Nat) : Bool := decide (i = 0) || decide (zs[i]! ≠ zs[i - 1]!)
def plainUp (zs : List Int) : Nat → List Int
  | 0 => []
  | k + 1 => plainUp zs k ++ (if keepA zs k then [zs[k]!] else [])
def keepB (ps : List Int) (i : Nat) : Bool := decide (i = 0) || decide (i = ps.length - 1) || (decide (ps[i - 1]! < ps[i]!) != decide (ps[i]! < ps[i + 1]!))
def turnUp (ps : List Int) : Nat → List Int
  | 0 => []
  | k + 1 => turnUp ps k ++ (if keepB ps k then [ps[k]!] else [])
def refT (zs : List Int) : List Int := turnUp (plainUp zs zs.length) (plainUp zs zs.length).length

theorem plainUp_succ (zs : List Int) (k : Nat) : plainUp zs (k + 1) = plainUp zs k ++ (if keepA zs k then [zs[k]!] else []) := rfl
theorem turnUp_succ (ps : List Int) (k : Nat) : turnUp ps (k + 1) = turnUp ps k ++ (if keepB ps k then [ps[k]!] else []) := rfl
theorem get_app (l : List Int) (x : Int) (i : Nat) (h : i < l.length) : (l ++ [x])[i]! = l[i]! := by
  rw [getElem!_pos _ i (by simp; omega), getElem!_pos l i h, List.getElem_append_left h]
theorem get_app_last (l : List Int) (x : Int) : (l ++ [x])[l.length]! = x := by
  rw [getElem!_pos _ _ (by simp)]; simp
theorem plainUp_app (zs : List Int) (x : Int) : ∀ k, k ≤ zs.length → plainUp (zs ++ [x]) k = plainUp zs k := by
  intro k
  induction k with
  | zero => intro _; rfl
  | succ k ih =>
    intro h
    rw [plainUp_succ, plainUp_succ, ih (by omega)]
    unfold keepA
    rw [get_app zs x k (by omega), get_app zs x (k - 1) (by omega)]
theorem turnUp_app (ps : List Int) (x : Int) : ∀ k, k + 1 ≤ ps.length → turnUp (ps ++ [x]) k = turnUp ps k := by
  intro k
  induction k with
  | zero => intro _; rfl
  | succ k ih =>
    intro h
    rw [turnUp_succ, turnUp_succ, ih (by omega)]
    unfold keepB
    rw [get_app ps x k (by omega), get_app ps x (k - 1) (by omega), get_app ps x (k + 1) (by omega), List.length_append, List.length_singleton]
    rw [show decide (k = ps.length + 1 - 1) = false from decide_eq_false (by omega), show decide (k = ps.length - 1) = false from decide_eq_false (by omega)]
theorem plainUp_len (zs : List Int) : ∀ k, (plainUp zs k).length ≤ k := by
  intro k
  induction k with
  | zero => exact Nat.le_refl _
  | succ k ih => rw [plainUp_succ, List.length_append]; split <;> simp <;> omega
theorem turnUp_len (zs : List Int) : ∀ k, (turnUp zs k).length ≤ k := by
  intro k
  induction k with
  | zero => exact Nat.le_refl _
  | succ k ih => rw [turnUp_succ, List.length_append]; split <;> simp <;> omega

structure RT (zs Q A : List Int) (p : Int) : Prop where
  plain : plainUp zs zs.length = Q ++ [p]
  last : zs[zs.length - 1]! = p
  head : turnUp (Q ++ [p]) Q.length = A
  turn : turnP zs = A ++ [p]
  nil : Q = [] → A = []
  dir : Q ≠ [] → A ≠ [] ∧ (A[A.length - 1]! < p ↔ Q[Q.length - 1]! < p)

theorem RT.step {zs Q A : List Int} {p : Int} (h : RT zs Q A p) (hz : zs ≠ []) (x : Int) : ∃ Q' A', RT (zs ++ [x]) Q' A' x := by
  have hzl := List.length_pos_iff.2 hz
  have hlen : (zs ++ [x]).length = zs.length + 1 := by simp
  have hkA : keepA (zs ++ [x]) zs.length = decide (x ≠ p) := by
    unfold keepA
    rw [get_app_last, get_app zs x _ (by omega), h.last, show decide (zs.length = 0) = false from decide_eq_false (by omega), Bool.false_or]
  have hpl : plainUp (zs ++ [x]) (zs ++ [x]).length = (Q ++ [p]) ++ (if x ≠ p then [x] else []) := by
    rw [hlen, plainUp_succ, plainUp_app zs x _ (Nat.le_refl _), h.plain, hkA, get_app_last]
    simp
  have hla : (zs ++ [x])[(zs ++ [x]).length - 1]! = x := g_last zs x
  by_cases e : x = p
  · subst e
    rw [if_neg (fun h => h rfl), List.append_nil] at hpl
    exact ⟨Q, A, hpl, hla, h.head, by rw [turnP_snoc, h.turn, turnStep_snoc, if_pos rfl], h.nil, h.dir⟩
  · rw [if_pos e] at hpl
    have hh : turnUp (Q ++ [p] ++ [x]) (Q ++ [p]).length = A ++ (if keepB (Q ++ [p] ++ [x]) Q.length then [p] else []) := by
      rw [List.length_append, List.length_singleton, turnUp_succ, turnUp_app (Q ++ [p]) x _ (by simp), h.head, get_app (Q ++ [p]) x _ (by simp), get_app_last]
    have e1 : (Q ++ [p] ++ [x])[Q.length + 1]! = x := by
      have := get_app_last (Q ++ [p]) x
      rwa [List.length_append, List.length_singleton] at this
    have e0 : (Q ++ [p] ++ [x])[Q.length]! = p := by
      rw [get_app (Q ++ [p]) x _ (by simp), get_app_last]
    have e2 : decide (Q.length = (Q ++ [p] ++ [x]).length - 1) = false := decide_eq_false (by simp)
    have hkB : keepB (Q ++ [p] ++ [x]) Q.length = (decide (Q = []) || (decide (Q[Q.length - 1]! < p) != decide (p < x))) := by
      unfold keepB
      rw [e0, e1, e2, Bool.or_false]
      by_cases hq : Q = []
      · subst hq; simp
      · have hql := List.length_pos_iff.2 hq
        have e3 : (Q ++ [p] ++ [x])[Q.length - 1]! = Q[Q.length - 1]! := by
          rw [get_app (Q ++ [p]) x _ (by rw [List.length_append, List.length_singleton]; omega), get_app Q p _ (by omega)]
        rw [e3, decide_eq_false hq, decide_eq_false (show ¬ Q.length = 0 by omega)]
    by_cases hq : Q = []
    · have hA := h.nil hq
      subst hq
      subst hA
      refine ⟨[p], [p], by simpa using hpl, hla, ?_, ?_, (fun h => by cases h), fun _ => ⟨by simp, Iff.rfl⟩⟩
      · have := hh
        rw [hkB] at this
        simpa using this
      · rw [turnP_snoc, h.turn, turnStep_snoc, if_neg (Ne.symm e), if_neg (fun h => h.1 rfl)]; rfl
    · obtain ⟨hA, hdir⟩ := h.dir hq
      have hkB2 : keepB (Q ++ [p] ++ [x]) Q.length = (decide (Q[Q.length - 1]! < p) != decide (p < x)) := by
        rw [hkB, decide_eq_false hq, Bool.false_or]
      have hq1 : (Q ++ [p])[(Q ++ [p]).length - 1]! = p := g_last Q p
      by_cases hd : Q[Q.length - 1]! < p ↔ p < x
      · have hk : keepB (Q ++ [p] ++ [x]) Q.length = false := by
          rw [hkB2, decide_eq_decide.2 hd]
          cases decide (p < x) <;> rfl
        rw [hk] at hh
        refine ⟨Q ++ [p], A, hpl, hla, by simpa using hh, ?_, fun h => by simp at h, fun _ => ⟨hA, ?_⟩⟩
        · rw [turnP_snoc, h.turn, turnStep_snoc, if_neg (Ne.symm e), if_pos ⟨hA, by omega⟩]
        · rw [hq1]; omega
      · have hk : keepB (Q ++ [p] ++ [x]) Q.length = true := by
          rw [hkB2]
          have hne : decide (Q[Q.length - 1]! < p) ≠ decide (p < x) := fun h' => hd (decide_eq_decide.1 h')
          revert hne
          cases decide (Q[Q.length - 1]! < p) <;> cases decide (p < x) <;> intro h' <;> first
            | rfl
            | exact absurd rfl h'
        rw [hk] at hh
        refine ⟨Q ++ [p], A ++ [p], hpl, hla, by simpa using hh, ?_, fun h => by simp at h, fun _ => ⟨by simp, ?_⟩⟩
        · rw [turnP_snoc, h.turn, turnStep_snoc, if_neg (Ne.symm e), if_neg (fun h' => hd (by omega))]
        · rw [hq1, g_last]

theorem rt_all : ∀ (n : Nat) (zs : List Int), zs.length = n + 1 → ∃ Q A p, RT zs Q A p := by
  intro n
  induction n with
  | zero =>
    intro zs h
    obtain ⟨z, rfl⟩ : ∃ z, zs = [z] := List.length_eq_one_iff.1 h
    exact ⟨[], [], z, rfl, rfl, rfl, rfl, fun _ => rfl, fun h => absurd rfl h⟩
  | succ n ih =>
    intro zs h
    rcases List.eq_nil_or_concat zs with e | ⟨ys, x, e⟩
    · subst e; simp at h
    · rw [List.concat_eq_append] at e
      subst e
      obtain ⟨Q, A, p, hr⟩ := ih ys (by simpa using h)
      obtain ⟨Q', A', hr'⟩ := hr.step (by intro e; subst e; simp at h) x
      exact ⟨Q', A', x, hr'⟩

theorem refT_eq (zs : List Int) : refT zs = turnP zs := by
  by_cases h : zs = []
  · subst h; rfl
  · have hl := List.length_pos_iff.2 h
    obtain ⟨Q, A, p, r⟩ := rt_all (zs.length - 1) zs (by omega)
    unfold refT
    rw [r.plain, List.length_append, List.length_singleton, turnUp_succ, r.head, r.turn, get_app_last]
    have : keepB (Q ++ [p]) Q.length = true := by unfold keepB; simp
    rw [this]; rfl
end Go.Proofs.YtchnhjffpldpiaaDoor
