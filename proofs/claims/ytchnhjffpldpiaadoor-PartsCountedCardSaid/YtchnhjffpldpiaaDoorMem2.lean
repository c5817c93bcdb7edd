/- Stores into a hangar. No walk. -/
import Derived.Test.YtchnhjffpldpiaaDoorMem
namespace Go.Proofs.YtchnhjffpldpiaaDoor
open Go.RowKit

variable {w w' : World} {B : Nat} {L : HL} {H : HS}

theorem set_get! {α : Type} [Inhabited α] (l : List α) (k i : Nat) (x : α) (hk : k < l.length) : (l.set k x)[i]! = if i = k then x else l[i]! := by
  by_cases h : i = k
  · subst h; simp [hk]
  · rw [if_neg h]
    simp only [List.getElem!_eq_getElem?_getD]
    rw [List.getElem?_set_ne (by omega)]

def HS.setPart (H : HS) (k : Nat) (p : PS) : HS := { H with parts := H.parts.set k p }
theorem HS.setPart_len (H : HS) (k : Nat) (p : PS) : (H.setPart k p).parts.length = H.parts.length := by simp [HS.setPart]
theorem HS.setPart_get (H : HS) (k i : Nat) (p : PS) (hk : k < H.parts.length) : (H.setPart k p).parts[i]! = if i = k then p else H.parts[i]! := set_get! _ _ _ _ hk

theorem IsH.putPart (h : IsH w B L H) (k : Nat) (hk : k < H.parts.length) (o : Nat) (v : Value) (p' : PS)
    (hc : partCells L p' H.reg.orders.length k = (partCells L H.parts[k]! H.reg.orders.length k).set o v) (hs : p'.since = (H.parts[k]!).since) (hch : p'.chk = (H.parts[k]!).chk) :
    IsH (w.setCell ⟨L.pb k, o, none⟩ v) B L (H.setPart k p') := by
  refine h.put (.part k) hk o v (H' := H.setPart k p') rfl (H.setPart_len k p') (fun i => Iff.rfl) ?_ ?_ (fun i => rfl)
  · show partCells L (H.setPart k p').parts[k]! H.reg.orders.length k = _
    rw [H.setPart_get k k p' hk, if_pos rfl]
    exact hc
  · intro t hne ht
    cases t with
    | h => simp only [cellsOf, H.setPart_len]; rfl
    | pr => simp only [cellsOf, H.setPart_len]
    | ib => rfl
    | fb => rfl
    | hr => simp only [cellsOf, H.setPart_len]; rfl
    | part i =>
      have : i ≠ k := fun e => hne (by rw [e])
      simp only [cellsOf, H.setPart_get k i p' hk, if_neg this]
      rfl
    | since i =>
      simp only [cellsOf, H.setPart_get k i p' hk]
      split
      · rename_i e; subst e; rw [hs]
      · rfl
    | chk i =>
      simp only [cellsOf, H.setPart_get k i p' hk]
      split
      · rename_i e; subst e; rw [hch]
      · rfl
    | hist i => rfl

theorem partCells_since (L : HL) (p : PS) (no i : Nat) (s : List Int) : partCells L { p with since := s } no i = partCells L p no i := rfl
theorem partCells_chk (L : HL) (p : PS) (no i : Nat) (s : List Bool) : partCells L { p with chk := s } no i = partCells L p no i := rfl

theorem IsH.putSince (h : IsH w B L H) (k : Nat) (hk : k < H.parts.length) (j : Nat) (v : Int) :
    IsH (w.setCell ⟨L.sb k, j, none⟩ (.int .i64 v)) B L (H.setPart k { H.parts[k]! with since := (H.parts[k]!).since.set j v }) := by
  refine h.put (.since k) hk j (.int .i64 v) (H' := H.setPart k { H.parts[k]! with since := (H.parts[k]!).since.set j v }) rfl (H.setPart_len k _) (fun i => Iff.rfl) ?_ ?_ (fun i => rfl)
  · simp only [cellsOf, H.setPart_get k k _ hk, if_true]
    rw [List.map_set]
  · intro t hne ht
    cases t with
    | h => simp only [cellsOf, H.setPart_len]; rfl
    | pr => simp only [cellsOf, H.setPart_len]
    | ib => rfl
    | fb => rfl
    | hr => simp only [cellsOf, H.setPart_len]; rfl
    | part i =>
      simp only [cellsOf, H.setPart_get k i _ hk]
      split
      · rename_i e; subst e; rfl
      · rfl
    | since i =>
      have : i ≠ k := fun e => hne (by rw [e])
      simp only [cellsOf, H.setPart_get k i _ hk, if_neg this]
    | chk i =>
      simp only [cellsOf, H.setPart_get k i _ hk]
      split
      · rename_i e; subst e; rfl
      · rfl
    | hist i => rfl

theorem IsH.putChk (h : IsH w B L H) (k : Nat) (hk : k < H.parts.length) (j : Nat) (v : Bool) :
    IsH (w.setCell ⟨L.cb k, j, none⟩ (.bool v)) B L (H.setPart k { H.parts[k]! with chk := (H.parts[k]!).chk.set j v }) := by
  refine h.put (.chk k) hk j (.bool v) (H' := H.setPart k { H.parts[k]! with chk := (H.parts[k]!).chk.set j v }) rfl (H.setPart_len k _) (fun i => Iff.rfl) ?_ ?_ (fun i => rfl)
  · simp only [cellsOf, H.setPart_get k k _ hk, if_true]
    rw [List.map_set]
  · intro t hne ht
    cases t with
    | h => simp only [cellsOf, H.setPart_len]; rfl
    | pr => simp only [cellsOf, H.setPart_len]
    | ib => rfl
    | fb => rfl
    | hr => simp only [cellsOf, H.setPart_len]; rfl
    | part i =>
      simp only [cellsOf, H.setPart_get k i _ hk]
      split
      · rename_i e; subst e; rfl
      · rfl
    | chk i =>
      have : i ≠ k := fun e => hne (by rw [e])
      simp only [cellsOf, H.setPart_get k i _ hk, if_neg this]
    | since i =>
      simp only [cellsOf, H.setPart_get k i _ hk]
      split
      · rename_i e; subst e; rfl
      · rfl
    | hist i => rfl

theorem IsH.putIssued (h : IsH w B L H) (j : Nat) (v : Bool) : IsH (w.setCell ⟨L.ib, j, none⟩ (.bool v)) B L { H with issued := H.issued.set j v } := by
  refine h.put .ib trivial j (.bool v) (H' := { H with issued := H.issued.set j v }) rfl rfl (fun i => Iff.rfl) ?_ ?_ (fun i => rfl)
  · simp only [cellsOf]; rw [List.map_set]
  · intro t hne ht
    cases t <;> first | rfl | exact absurd rfl hne

theorem IsH.putWorks (h : IsH w B L H) (v : Int) : IsH (w.setCell ⟨L.hb, 7, none⟩ (.int .i64 v)) B L { H with works := v } := by
  refine h.put .h trivial 7 (.int .i64 v) (H' := { H with works := v }) rfl rfl (fun i => Iff.rfl) ?_ ?_ (fun i => rfl)
  · rfl
  · intro t hne ht
    cases t <;> first | rfl | exact absurd rfl hne

/-- One cell of a row of elements of k cells. -/
theorem flatMap_set {α : Type} [Inhabited α] (enc : α → List Value) (k : Nat) (hk : ∀ x, (enc x).length = k) (l : List α) : ∀ (j i : Nat) (x : α) (v : Value), j < l.length → i < k → enc x = (enc l[j]!).set i v →
    (l.set j x).flatMap enc = (l.flatMap enc).set (j * k + i) v := by
  induction l with
  | nil => intro j i x v hj; simp at hj
  | cons y ys ih =>
    intro j i x v hj hi hx
    cases j with
    | zero =>
      simp only [List.set_cons_zero, List.flatMap_cons, Nat.zero_mul, Nat.zero_add]
      rw [List.set_append_left _ _ (by rw [hk]; exact hi), hx]
      rfl
    | succ j =>
      simp only [List.set_cons_succ, List.flatMap_cons]
      rw [List.set_append_right _ _ (by rw [hk, Nat.succ_mul]; omega), hk, show (j + 1) * k + i - k = j * k + i by rw [Nat.succ_mul]; omega,
        ih j i x v (by simpa using hj) hi (by simpa using hx)]

theorem IsH.putFlown0 (h : IsH w B L H) (j : Nat) (hj : j < H.flown.length) (v : Int) : IsH (w.setCell ⟨L.fb, j * 2, none⟩ (.int .i64 v)) B L { H with flown := H.flown.set j (v, (H.flown[j]!).2) } := by
  refine h.put .fb trivial (j * 2) (.int .i64 v) (H' := { H with flown := H.flown.set j (v, (H.flown[j]!).2) }) rfl rfl (fun i => Iff.rfl) ?_ ?_ (fun i => rfl)
  · have := flatMap_set encPair 2 (fun _ => rfl) H.flown j 0 (v, (H.flown[j]!).2) (.int .i64 v) hj (by omega) rfl
    rw [Nat.add_zero] at this
    exact this
  · intro t hne ht
    cases t with
    | fb => exact absurd rfl hne
    | h => simp only [cellsOf, List.length_set]
    | _ => rfl
theorem IsH.putFlown1 (h : IsH w B L H) (j : Nat) (hj : j < H.flown.length) (v : Int) : IsH (w.setCell ⟨L.fb, j * 2 + 1, none⟩ (.int .i64 v)) B L { H with flown := H.flown.set j ((H.flown[j]!).1, v) } := by
  refine h.put .fb trivial (j * 2 + 1) (.int .i64 v) (H' := { H with flown := H.flown.set j ((H.flown[j]!).1, v) }) rfl rfl (fun i => Iff.rfl) ?_ ?_ (fun i => rfl)
  · exact flatMap_set encPair 2 (fun _ => rfl) H.flown j 1 ((H.flown[j]!).1, v) (.int .i64 v) hj (by omega) rfl
  · intro t hne ht
    cases t with
    | fb => exact absurd rfl hne
    | h => simp only [cellsOf, List.length_set]
    | _ => rfl

/-- A cell of the last stretch of a history. -/
theorem IsH.putHist (h : IsH w B L H) (k : Nat) (hk : k < H.parts.length) (hl : H.hist.length = H.parts.length) (j : Nat) (hj : j < (H.hist[k]!).length) (i : Nat) (hi : i < 6) (x : StretchR) (v : Value) (hx : encStretch x = (encStretch (H.hist[k]!)[j]!).set i v) :
    IsH (w.setCell ⟨L.gb k, j * 6 + i, none⟩ v) B L { H with hist := H.hist.set k ((H.hist[k]!).set j x) } := by
  have hne0 : H.hist[k]! ≠ [] := by intro e; rw [e] at hj; simp at hj
  have hkh : k < H.hist.length := by omega
  have hg : ∀ i : Nat, (H.hist.set k ((H.hist[k]!).set j x))[i]! = if i = k then (H.hist[k]!).set j x else H.hist[i]! := fun i => set_get! _ _ _ _ hkh
  refine h.put (.hist k) ⟨hk, hne0⟩ (j * 6 + i) v (H' := { H with hist := H.hist.set k ((H.hist[k]!).set j x) }) rfl rfl ?_ ?_ ?_ ?_
  · intro i
    simp only [hg]
    split
    · rename_i e; subst e
      constructor
      · intro e; have e2 := congrArg List.length e; rw [List.length_set, List.length_nil] at e2; exact List.eq_nil_of_length_eq_zero e2
      · intro e; exact absurd e hne0
    · exact Iff.rfl
  · have hlen : ((H.hist[k]!).flatMap encStretch).length = (H.hist[k]!).length * 6 := by
      generalize H.hist[k]! = l
      induction l with
      | nil => rfl
      | cons a l ih => simp only [List.flatMap_cons, List.length_append, ih, List.length_cons]; rw [Nat.succ_mul]; simp [encStretch]; omega
    have : j * 6 + i < (H.hist[k]!).length * 6 := by omega
    simp only [cellsOf, hg, if_true]
    rw [flatMap_set encStretch 6 (fun _ => rfl) _ j i x v hj hi hx, List.set_append_left _ _ (by omega)]
  · intro t hne ht
    cases t with
    | hist i =>
      have : i ≠ k := fun e => hne (by rw [e])
      simp only [cellsOf, hg, if_neg this]
    | hr =>
      simp only [cellsOf, hg]
      apply List.map_congr_left
      intro i hi
      split
      · rename_i e; subst e; simp [histV]
      · rfl
    | _ => rfl
  · intro i
    simp only [hg]
    split
    · rename_i e; subst e; simp
    · rfl

end Go.Proofs.YtchnhjffpldpiaaDoor
