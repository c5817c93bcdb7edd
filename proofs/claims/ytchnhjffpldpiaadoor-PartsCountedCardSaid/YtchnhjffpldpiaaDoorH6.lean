/- hangar.end, walked. -/
import Derived.Test.YtchnhjffpldpiaaDoorH5
namespace Go.Proofs.YtchnhjffpldpiaaDoor
open Go.RowKit
attribute [local go_sem] eqi_spot eqi_pair gd_spot gd_pair
attribute [local go_sem ↓] Go.wp_at_zero Go.wp_at_succ

variable {w : World} {B : Nat} {L : HL} {H : HS}

theorem IsH.histc (h : IsH w B L H) (k : Nat) (hk : k < H.parts.length) (j : Nat) (hj : j < (H.hist[k]!).length) (i : Nat) (u : Value) (hu : (encStretch (H.hist[k]!)[j]!)[i]? = some u) : w.cell? ⟨L.gb k, j * 6 + i, none⟩ = some u := by
  have hne : H.hist[k]! ≠ [] := by intro e; rw [e] at hj; simp at hj
  have h1 := flatMap_get? encStretch 6 (fun _ => rfl) (H.hist[k]!) j i u hj hu
  rw [show L.gb k = L.blk (.hist k) from rfl, h.cell (.hist k) ⟨hk, hne⟩]
  show (_ ++ _)[_]? = _
  rw [List.getElem?_append_left (List.getElem?_eq_some_iff.1 h1).1]
  exact h1

set_option maxRecDepth 100000 in
set_option maxHeartbeats 4000000 in
theorem end_any (h : IsH w B L H) (hf : H.Fit) (k : Nat) (hk : k < H.parts.length) (n : Nat) (hn : (H.hist[k]!).length = n + 1) (to : Int) :
    Calls Tryd.prog 79 #[.pointer (some ⟨L.hb, 0, none⟩), .slice (some ⟨L.gb k, 0, none⟩) (n + 1) (L.gcap k), .int .i64 to] w fun e w' => e = .returned (.tuple #[]) ∧ Below B w w' ∧
      IsH w' B L { H with hist := H.hist.set k (endLast H.flown to H.hist[k]!) } := by
  have hlen := hf.hlen k hk
  have hw1 := hf.works1
  have hnn : n < 1000 := by omega
  have hjn : n < (H.hist[k]!).length := by omega
  have hmem : (H.hist[k]!)[n]! ∈ H.hist[k]! := by rw [getElem!_pos _ n hjn]; exact List.getElem_mem hjn
  have ok := hf.hok k _ hk hmem
  have hfl := hf.flown
  obtain ⟨mn, hmn⟩ : ∃ mn : Nat, ((H.hist[k]!)[n]!).machine = mn := ⟨((H.hist[k]!)[n]!).machine.toNat, by omega⟩
  have hml : mn < H.flown.length := by omega
  have hfb := hf.flowns mn hml
  have s0 := h.histc k hk n hjn 0 _ rfl
  have s3 := h.histc k hk n hjn 3 _ rfl
  have s4 := h.histc k hk n hjn 4 _ rfl
  have s5 := h.histc k hk n hjn 5 _ rfl
  have hne : H.hist[k]! ≠ [] := by intro e; rw [e] at hn; simp at hn
  have fr := fun o => h.frozen (.hist k) ⟨hk, hne⟩ o
  have fr3 := fr (n * 6 + 3)
  have fr4 := fr (n * 6 + 4)
  have fr5 := fr (n * 6 + 5)
  have c6 := h.h6
  have f0 := h.flown0 mn hml
  have f1 := h.flown1 mn hml
  have e1 : L.gb k ≠ L.fb := fun e => by have := h.inj (.hist k) .fb ⟨hk, hne⟩ trivial e; cases this
  have e2 : L.gb k ≠ L.hb := fun e => by have := h.inj (.hist k) .h ⟨hk, hne⟩ trivial e; cases this
  have e3 : L.fb ≠ L.gb k := fun e => e1 e.symm
  have e4 : L.hb ≠ L.gb k := fun e => e2 e.symm
  have hmz : (mn : Int) < (H.flown.length : Int) := by omega
  have hm0 : (0 : Int) ≤ (mn : Int) := by omega
  have HH := Lib.hid h
  have HF := Lib.hid hf
  have HML := Lib.hid hml
  have HJN := Lib.hid hjn
  have HN := Lib.hid hn
  have HK := Lib.hid hk
  clear h hf hml hjn hn hk fr hmem hlen hne
  generalize hs : (H.hist[k]!)[n]! = s at *
  obtain ⟨sm, sp, sf, st, sh, sc⟩ := s
  simp only [HL.blk] at s0 s3 s4 s5 fr3 fr4 fr5 ok hmn
  subst hmn
  rw [Nat.add_zero] at s0
  generalize hfe : H.flown[mn]! = fe at *
  obtain ⟨fe1, fe2⟩ := fe
  simp only at f0 f1 hfb
  have HSE := Lib.hid hs
  have HFE := Lib.hid hfe
  clear hs hfe
  generalize H.flown.length = nf at c6 hmz
  go_enter Tryd.func79, Tryd.ntmps79
  go_wp2
  go_region
  go_end0
  refine ⟨rfl, ?_, ?_⟩
  · have hb := (HH.out.blocks (.hist k) ⟨HK.out, by intro e; have := HN.out; rw [e] at this; simp at this⟩).2
    exact ((((Below.refl B w).setCell (p := ⟨L.gb k, n * 6 + 3, none⟩) hb _).setCell (p := ⟨L.gb k, n * 6 + 4, none⟩) hb _).setCell (p := ⟨L.gb k, n * 6 + 5, none⟩) hb _).drew
  · have hl0 := HF.out.hist
    have hkl : k < H.hist.length := by rw [hl0]; exact HK.out
    have gg : ∀ l : List StretchR, (H.hist.set k l)[k]! = l := fun l => by rw [set_get! _ _ _ _ hkl, if_pos rfl]
    have J1 := HH.out.putHist k HK.out hl0 n HJN.out 3 (by omega) ⟨mn, sp, sf, to, sh, sc⟩ (.int .i64 to) (by rw [HSE.out]; rfl)
    have J2 := J1.putHist k HK.out (by rw [List.length_set]; exact hl0) n (by rw [gg, List.length_set]; exact HJN.out) 4 (by omega) ⟨mn, sp, sf, to, fe1 - sh, sc⟩ (.int .i64 (fe1 - sh)) (by rw [gg, set_get! _ _ _ _ HJN.out, if_pos rfl]; rfl)
    have J3 := J2.putHist k HK.out (by rw [List.length_set, List.length_set]; exact hl0) n (by simp only [List.set_set, gg, List.length_set]; exact HJN.out) 5 (by omega) ⟨mn, sp, sf, to, fe1 - sh, fe2 - sc⟩ (.int .i64 (fe2 - sc)) (by simp only [List.set_set, gg, set_get! _ _ _ _ HJN.out, if_true]; rfl)
    refine J3.drew.cong ?_
    simp only [List.set_set, gg, endLast, HN.out, Nat.add_sub_cancel, HSE.out, Int.toNat_natCast, HFE.out]
end Go.Proofs.YtchnhjffpldpiaaDoor
