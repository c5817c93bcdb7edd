/- A stretch appended to a history: the hangar in memory behind it. No walk. -/
import Derived.Test.YtchnhjffpldpiaaDoorMem2
import Derived.Maps.AppendAt
namespace Go.Proofs.YtchnhjffpldpiaaDoor
open Go.RowKit

variable {w : World} {B : Nat} {L : HL} {H : HS}

theorem histLen (l : List StretchR) : (l.flatMap encStretch).length = l.length * 6 := by
  induction l with
  | nil => rfl
  | cons a l ih => simp only [List.flatMap_cons, List.length_append, ih, List.length_cons]; rw [Nat.succ_mul]; simp [encStretch]; omega

theorem IsH.ownsHist (h : IsH w B L H) (k : Nat) (hk : k < H.parts.length) : w.ownsRow B 61 6 (histV L H.hist[k]! k) (H.hist[k]!).length ((H.hist[k]!).flatMap encStretch) := by
  refine ⟨histLen _, ?_⟩
  unfold histV
  by_cases he : H.hist[k]! = []
  · rw [if_pos he, he]; exact .inl ⟨rfl, rfl⟩
  · rw [if_neg he]
    obtain ⟨h1, h2, h3⟩ := h.gcap k hk he
    have hb := h.blocks (.hist k) ⟨hk, he⟩
    refine .inr ⟨L.gb k, L.gcap k, _, rfl, hb.2, hb.1, h1, h2, ?_, ?_⟩
    · simp only [cellsOf, List.size_toArray, List.length_append, histLen, h3]
      rw [← Nat.add_mul]; congr 1; omega
    · simp only [cellsOf]
      rw [← histLen]
      exact List.take_left' rfl

theorem IsH.hrc (h : IsH w B L H) (k : Nat) (hk : k < H.parts.length) : w.cell? ⟨L.hr, k, none⟩ = some (histV L H.hist[k]! k) := by
  rw [show L.hr = L.blk .hr from rfl, h.cell .hr trivial k]
  simp [cellsOf, hk]

theorem IsH.append (h : IsH w B L H) (k : Nat) (hk : k < H.parts.length) (hl : H.hist.length = H.parts.length) (x : StretchR) {w1 w3 : World} {v' : Value} (hb : Below w.heap.size w w1)
    (O : w3.ownsRow B 61 6 v' ((H.hist[k]!).length + 1) ((H.hist[k]!).flatMap encStretch ++ encStretch x)) (G : w1.grownBy w3 (histV L H.hist[k]! k).ownBlock)
    (A : v'.ownBlock = (histV L H.hist[k]! k).ownBlock ∨ v'.ownBlock = some w1.heap.size) :
    ∃ L', L'.hb = L.hb ∧ IsH (w3.setCell ⟨L.hr, k, none⟩ v') B L' { H with hist := H.hist.set k (H.hist[k]! ++ [x]) } := by
  rcases O.2 with ⟨_, hz⟩ | ⟨g, cap, cur, rfl, hBg, hg, hcap, hcm, hcs, ht⟩
  · omega
  have hsz := hb.size
  have hgz := G.size
  have hB : B ≤ w.heap.size := h.base
  have hkh : k < H.hist.length := by omega
  have hgt : ∀ i : Nat, (H.hist.set k (H.hist[k]! ++ [x]))[i]! = if i = k then H.hist[k]! ++ [x] else H.hist[i]! := fun i => set_get! _ _ _ _ hkh
  -- the old block, where there is one
  have hown : ∀ b, (histV L H.hist[k]! k).ownBlock = some b → b = L.gb k ∧ H.hist[k]! ≠ [] := by
    intro b hb'
    unfold histV at hb'
    split at hb'
    · simp [Value.ownBlock] at hb'
    · rename_i hne
      simp [Value.ownBlock] at hb'
      exact ⟨hb'.symm, hne⟩
  have hgA : (H.hist[k]! ≠ [] ∧ g = L.gb k) ∨ g = w1.heap.size := by
    rcases A with A | A
    · have := hown g (by rw [← A]; rfl)
      exact .inl ⟨this.2, this.1⟩
    · simp [Value.ownBlock] at A
      exact .inr A
  -- what is not the history's own block lies as it lay
  have hblk : ∀ s, okSlot H s → s ≠ .hist k → w3.heap[L.blk s]? = w.heap[L.blk s]? := by
    intro s hs hne
    have hlt := h.lt s hs
    rw [G.block _ (by omega) ?_, hb.block _ hlt]
    intro e
    obtain ⟨e1, e2⟩ := hown _ e.symm
    exact hne (h.inj s (.hist k) hs ⟨hk, e2⟩ e1)
  have hgne : ∀ s, okSlot H s → s ≠ .hist k → L.blk s ≠ g := by
    intro s hs hne e
    have hlt := h.lt s hs
    rcases hgA with ⟨e2, e3⟩ | e3
    · exact hne (h.inj s (.hist k) hs ⟨hk, e2⟩ (e.trans e3))
    · omega
  have hglt : g < w3.heap.size := (Array.getElem?_eq_some_iff.1 hg).1
  have okk : ∀ t, t ≠ .hist k → okSlot { H with hist := H.hist.set k (H.hist[k]! ++ [x]) } t → okSlot H t := by
    intro t hne ht'
    cases t with
    | hist i =>
      have hik : i ≠ k := fun e => hne (by rw [e])
      have := ht'
      simp only [okSlot, hgt, if_neg hik] at this
      exact this
    | _ => exact ht'
  have hBW : Below B w (w3.setCell ⟨L.hr, k, none⟩ (.slice (some ⟨g, 0, none⟩) ((H.hist[k]!).length + 1) cap)) := by
    have b1 : Below B w w3 := ⟨G.os.trans hb.os, G.tape.trans hb.tape, G.output.trans hb.output, by omega, fun i hi => by
      rw [G.block i (by omega) ?_, hb.block i (by omega)]
      intro e
      obtain ⟨e1, e2⟩ := hown _ e.symm
      have := (h.blocks (.hist k) ⟨hk, e2⟩).2
      simp only [HL.blk] at this
      omega⟩
    exact b1.setCell (p := ⟨L.hr, k, none⟩) (h.blocks .hr trivial).2 _
  refine ⟨{ L with gb := fun i => if i = k then g else L.gb i, gcap := fun i => if i = k then cap else L.gcap i, gspare := fun i => if i = k then cur.toList.drop (((H.hist[k]!).length + 1) * 6) else L.gspare i }, rfl, h.glb.below hBW, h.reg.below hBW, ?_, ?_, ?_, h.pcap⟩
  · intro s hs
    by_cases e : s = .hist k
    · subst e
      simp only [HL.blk, if_true]
      refine ⟨?_, hBg⟩
      have hne : L.hr ≠ g := hgne .hr trivial (by simp)
      rw [Below.heap_setCell _ _ _ _ (fun e => hne e.symm), hg]
      simp only [cellsOf, tyOf, hgt, if_true, List.flatMap_append, List.flatMap_cons, List.flatMap_nil, List.append_nil]
      rw [← ht, List.take_append_drop]
    · have hs0 := okk s e hs
      have hbeq : HL.blk { L with gb := fun i => if i = k then g else L.gb i, gcap := fun i => if i = k then cap else L.gcap i, gspare := fun i => if i = k then cur.toList.drop (((H.hist[k]!).length + 1) * 6) else L.gspare i } s = L.blk s := by
        cases s with
        | hist i =>
          have hik : i ≠ k := fun e2 => e (by rw [e2])
          simp [HL.blk, hik]
        | _ => rfl
      rw [hbeq]
      refine ⟨?_, (h.blocks s hs0).2⟩
      by_cases e2 : s = .hr
      · subst e2
        have := heap_setCell_at (w := w3) (b := L.hr) (c := cellsOf L H .hr) (T := tyOf .hr) (f := (0, 0)) (by rw [show L.hr = L.blk .hr from rfl, hblk .hr trivial (by simp)]; exact (h.blocks .hr trivial).1) k (.slice (some ⟨g, 0, none⟩) ((H.hist[k]!).length + 1) cap)
        rw [show L.blk .hr = L.hr from rfl, this]
        congr 3
        simp only [cellsOf]
        apply List.ext_getElem
        · simp
        · intro i h1 h2
          rw [List.getElem_set]
          simp only [List.getElem_map, List.getElem_range, hgt]
          by_cases e3 : k = i
          · subst e3
            simp [histV]
          · have e4 : i ≠ k := fun e => e3 e.symm
            simp [histV, e3, e4]
      · rw [Below.heap_setCell _ _ _ _ (fun e3 => e2 (h.inj s .hr hs0 trivial e3)), hblk s hs0 e, (h.blocks s hs0).1]
        congr 3
        cases s with
        | hist i =>
          have hik : i ≠ k := fun e2 => e (by rw [e2])
          simp only [cellsOf, hgt, if_neg hik]
        | hr => exact absurd rfl e2
        | _ => rfl
  · intro s t hs ht' hst
    have hb' : ∀ s, s ≠ .hist k → HL.blk { L with gb := fun i => if i = k then g else L.gb i, gcap := fun i => if i = k then cap else L.gcap i, gspare := fun i => if i = k then cur.toList.drop (((H.hist[k]!).length + 1) * 6) else L.gspare i } s = L.blk s := by
      intro s e
      cases s with
      | hist i =>
        have hik : i ≠ k := fun e2 => e (by rw [e2])
        simp [HL.blk, hik]
      | _ => rfl
    have hbk : HL.blk { L with gb := fun i => if i = k then g else L.gb i, gcap := fun i => if i = k then cap else L.gcap i, gspare := fun i => if i = k then cur.toList.drop (((H.hist[k]!).length + 1) * 6) else L.gspare i } (.hist k) = g := by simp [HL.blk]
    by_cases e1 : s = .hist k
    · by_cases e2 : t = .hist k
      · rw [e1, e2]
      · rw [e1, hbk, hb' t e2] at hst
        exact absurd hst.symm (hgne t (okk t e2 ht') e2)
    · by_cases e2 : t = .hist k
      · rw [e2, hbk, hb' s e1] at hst
        exact absurd hst (hgne s (okk s e1 hs) e1)
      · rw [hb' s e1, hb' t e2] at hst
        exact h.inj s t (okk s e1 hs) (okk t e2 ht') hst
  · intro i hi hne
    simp only [hgt] at hne ⊢
    by_cases e : i = k
    · subst e
      simp only [if_true, List.length_append, List.length_cons, List.length_nil, Nat.zero_add]
      refine ⟨hcap, hcm, ?_⟩
      rw [List.length_drop, Array.length_toList, hcs, ← Nat.sub_mul]
    · simp only [if_neg e] at hne ⊢
      exact h.gcap i hi hne

end Go.Proofs.YtchnhjffpldpiaaDoor
