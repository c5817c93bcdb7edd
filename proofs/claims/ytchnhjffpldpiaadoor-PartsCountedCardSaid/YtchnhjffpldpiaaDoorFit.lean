/- The bounds of a hangar hold behind each work. No walk. -/
import Derived.Test.YtchnhjffpldpiaaDoorMem2
namespace Go.Proofs.YtchnhjffpldpiaaDoor
open Go.RowKit

variable {H : HS}

/-- A part's place changed. -/
theorem HS.Fit.spotTo (hf : H.Fit) (k : Nat) (hk : k < H.parts.length) (m p : Int) (hm : -2 ≤ m ∧ m < H.reg.machines) (hp : -2 ≤ p ∧ p ≤ 4) (ho : 0 ≤ m → H.hist[k]! ≠ []) :
    HS.Fit { H with parts := H.parts.set k { H.parts[k]! with im := m, ip := p } } := by
  have G : ∀ i : Nat, (H.parts.set k { H.parts[k]! with im := m, ip := p })[i]! = if i = k then { H.parts[k]! with im := m, ip := p } else H.parts[i]! := fun i => set_get! _ _ _ _ hk
  have hl : (H.parts.set k { H.parts[k]! with im := m, ip := p }).length = H.parts.length := List.length_set
  constructor
  · exact hf.valid
  · exact hl.trans hf.parts
  · exact hf.issued
  · exact hf.flown
  · exact hf.hist.trans hl.symm
  · intro i hi; rw [show _ = _ from hl] at hi
    show ((H.parts.set k _)[i]!).since.length = _
    rw [G]; split
    · exact hf.since k hk
    · exact hf.since i hi
  · intro i hi; rw [show _ = _ from hl] at hi
    show ((H.parts.set k _)[i]!).chk.length = _
    rw [G]; split
    · exact hf.chk k hk
    · exact hf.chk i hi
  · exact hf.works0
  · exact hf.works1
  · intro i hi; rw [show _ = _ from hl] at hi
    show 0 ≤ ((H.parts.set k _)[i]!).kind ∧ ((H.parts.set k _)[i]!).kind < _
    rw [G]; split
    · exact hf.kind0 k hk
    · exact hf.kind0 i hi
  · intro i hi; rw [show _ = _ from hl] at hi
    show 0 ≤ ((H.parts.set k _)[i]!).hours ∧ ((H.parts.set k _)[i]!).hours ≤ _
    rw [G]; split
    · exact hf.hours k hk
    · exact hf.hours i hi
  · intro i hi; rw [show _ = _ from hl] at hi
    show 0 ≤ ((H.parts.set k _)[i]!).cycles ∧ ((H.parts.set k _)[i]!).cycles ≤ _
    rw [G]; split
    · exact hf.cycles k hk
    · exact hf.cycles i hi
  · intro i j hi hj; rw [show _ = _ from hl] at hi
    show 0 ≤ ((H.parts.set k _)[i]!).since[j]! ∧ ((H.parts.set k _)[i]!).since[j]! ≤ _
    rw [G]; split
    · exact hf.sinces k j hk hj
    · exact hf.sinces i j hi hj
  · exact hf.flowns
  · intro i hi; rw [show _ = _ from hl] at hi
    show -2 ≤ ((H.parts.set k _)[i]!).im ∧ ((H.parts.set k _)[i]!).im < _ ∧ -2 ≤ ((H.parts.set k _)[i]!).ip ∧ ((H.parts.set k _)[i]!).ip ≤ 4
    rw [G]; split
    · exact ⟨hm.1, hm.2, hp.1, hp.2⟩
    · exact hf.spot i hi
  · intro i hi; rw [show _ = _ from hl] at hi
    show 0 ≤ ((H.parts.set k _)[i]!).im → _
    rw [G]; split
    · rename_i e; subst e; exact ho
    · exact hf.open' i hi
  · intro i hi; rw [show _ = _ from hl] at hi
    exact hf.hlen i hi
  · intro i s hi; rw [show _ = _ from hl] at hi
    exact hf.hok i s hi
end Go.Proofs.YtchnhjffpldpiaaDoor
