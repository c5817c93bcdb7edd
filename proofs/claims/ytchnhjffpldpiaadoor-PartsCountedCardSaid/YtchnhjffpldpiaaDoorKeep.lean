/- Behind each work a hangar's bounds hold. No walk. -/
import Derived.Test.YtchnhjffpldpiaaDoorFit
import Derived.Test.YtchnhjffpldpiaaDoorH5
import Derived.Test.YtchnhjffpldpiaaDoorPart
namespace Go.Proofs.YtchnhjffpldpiaaDoor
open Go.RowKit

/-- What stands in a machine has an open stretch whose numbers are at most what its machine has flown. -/
def HS.Open (H : HS) : Prop := ∀ i, i < H.parts.length → 0 ≤ (H.parts[i]!).im →
  ((H.hist[i]!)[(H.hist[i]!).length - 1]!).hours ≤ (H.flown[((H.hist[i]!)[(H.hist[i]!).length - 1]!).machine.toNat]!).1 ∧
  ((H.hist[i]!)[(H.hist[i]!).length - 1]!).cycles ≤ (H.flown[((H.hist[i]!)[(H.hist[i]!).length - 1]!).machine.toNat]!).2

/-- A hangar with a work more. -/
def HS.bump (H : HS) : HS := { H with works := H.works + 1 }

structure PStp (H H' : HS) (i : Nat) : Prop where
  kind : (H'.parts[i]!).kind = (H.parts[i]!).kind
  sl : (H'.parts[i]!).since.length = (H.parts[i]!).since.length
  cl : (H'.parts[i]!).chk.length = (H.parts[i]!).chk.length
  hours : (H.parts[i]!).hours ≤ (H'.parts[i]!).hours ∧ (H'.parts[i]!).hours ≤ (H.parts[i]!).hours + 100
  cycles : (H.parts[i]!).cycles ≤ (H'.parts[i]!).cycles ∧ (H'.parts[i]!).cycles ≤ (H.parts[i]!).cycles + 100
  since : ∀ j, j < H.reg.orders.length → (H.parts[i]!).since[j]! ≤ (H'.parts[i]!).since[j]! ∧ (H'.parts[i]!).since[j]! ≤ (H.parts[i]!).since[j]! + 100
  spot : -2 ≤ (H'.parts[i]!).im ∧ (H'.parts[i]!).im < H.reg.machines ∧ -2 ≤ (H'.parts[i]!).ip ∧ (H'.parts[i]!).ip ≤ 4
  hist : (H'.hist[i]! = H.hist[i]! ∧ (0 ≤ (H'.parts[i]!).im → 0 ≤ (H.parts[i]!).im)) ∨
    (H'.flown = H.flown ∧ ∃ s : StretchR, H'.hist[i]! = H.hist[i]! ++ [s] ∧ 0 ≤ s.machine ∧ s.machine < H.reg.machines ∧ s.hours = (H.flown[s.machine.toNat]!).1 ∧ s.cycles = (H.flown[s.machine.toNat]!).2) ∨
    ((H'.parts[i]!).im < 0 ∧ 0 ≤ (H.parts[i]!).im ∧ H'.hist[i]! = endLast H.flown H.works H.hist[i]!)

structure Stp (H H' : HS) : Prop where
  reg : H'.reg = H.reg
  works : H'.works = H.works
  pl : H'.parts.length = H.parts.length
  il : H'.issued.length = H.issued.length
  fl : H'.flown.length = H.flown.length
  hl : H'.hist.length = H.hist.length
  part : ∀ i, i < H.parts.length → PStp H H' i
  flown : ∀ i, i < H.flown.length → (H.flown[i]!).1 ≤ (H'.flown[i]!).1 ∧ (H'.flown[i]!).1 ≤ (H.flown[i]!).1 + 100 ∧ (H.flown[i]!).2 ≤ (H'.flown[i]!).2 ∧ (H'.flown[i]!).2 ≤ (H.flown[i]!).2 + 100

variable {H H' : HS}

theorem last_mem (l : List StretchR) (h : l ≠ []) : l[l.length - 1]! ∈ l := by
  have : 0 < l.length := List.length_pos_iff.2 h
  rw [getElem!_pos l _ (by omega)]
  exact List.getElem_mem _

theorem Stp.keep (st : Stp H H') (hf : H.Fit) (ho : H.Open) (hw : H.works < 200) : H'.bump.Fit ∧ H'.bump.Open := by
  have hw0 := hf.works0
  have ok : ∀ i s, i < H.parts.length → s ∈ H'.hist[i]! → 0 ≤ s.machine ∧ s.machine < H.reg.machines ∧ 0 ≤ s.hours ∧ s.hours ≤ 20000 ∧ 0 ≤ s.cycles ∧ s.cycles ≤ 20000 := by
    intro i s hi hs
    have hk := hf.hok i
    rcases (st.part i hi).hist with ⟨e, _⟩ | ⟨_, s0, e, m0, m1, e1, e2⟩ | ⟨_, him, e⟩
    · rw [e] at hs; exact hk s hi hs
    · rw [e] at hs
      rcases List.mem_append.1 hs with h | h
      · exact hk s hi h
      · obtain rfl : s = s0 := by simpa using h
        have hl := hf.flown
        have := hf.flowns s.machine.toNat (by omega)
        exact ⟨m0, m1, by omega, by omega, by omega, by omega⟩
    · rw [e] at hs
      unfold endLast at hs
      rcases List.mem_or_eq_of_mem_set hs with h | h
      · exact hk s hi h
      · have hne := hf.open' i hi him
        have h1 := hk _ hi (last_mem _ hne)
        have h2 := ho i hi him
        have hl := hf.flown
        have h3 := hf.flowns ((H.hist[i]!)[(H.hist[i]!).length - 1]!).machine.toNat (by omega)
        subst h
        simp only
        exact ⟨h1.1, h1.2.1, by omega, by omega, by omega, by omega⟩
  have len : ∀ i, i < H.parts.length → ((H'.hist[i]!).length : Int) ≤ H.works + 1 := by
    intro i hi
    have := hf.hlen i hi
    rcases (st.part i hi).hist with ⟨e, _⟩ | ⟨_, s0, e, _⟩ | ⟨_, _, e⟩
    · rw [e]; omega
    · rw [e]; simp only [List.length_append, List.length_cons, List.length_nil]; omega
    · rw [e]; simp only [endLast, List.length_set]; omega
  constructor
  · constructor
    · show validReg H'.reg = true; rw [st.reg]; exact hf.valid
    · show H'.parts.length = H'.reg.parts.length; rw [st.pl, st.reg]; exact hf.parts
    · show H'.issued.length = H'.reg.orders.length; rw [st.il, st.reg]; exact hf.issued
    · show (H'.flown.length : Int) = H'.reg.machines; rw [st.fl, st.reg]; exact hf.flown
    · show H'.hist.length = H'.parts.length; rw [st.hl, st.pl]; exact hf.hist
    · intro i hi; show (H'.parts[i]!).since.length = H'.reg.orders.length
      have hi : i < H.parts.length := st.pl ▸ hi
      rw [(st.part i hi).sl, st.reg]; exact hf.since i hi
    · intro i hi; show (H'.parts[i]!).chk.length = H'.reg.orders.length
      have hi : i < H.parts.length := st.pl ▸ hi
      rw [(st.part i hi).cl, st.reg]; exact hf.chk i hi
    · show 0 ≤ H'.works + 1; rw [st.works]; omega
    · show H'.works + 1 ≤ 200; rw [st.works]; omega
    · intro i hi; show 0 ≤ (H'.parts[i]!).kind ∧ (H'.parts[i]!).kind < H'.reg.kinds.length
      have hi : i < H.parts.length := st.pl ▸ hi
      rw [(st.part i hi).kind, st.reg]; exact hf.kind0 i hi
    · intro i hi; show 0 ≤ (H'.parts[i]!).hours ∧ (H'.parts[i]!).hours ≤ 100000 + 100 * (H'.works + 1)
      have hi : i < H.parts.length := st.pl ▸ hi
      have := (st.part i hi).hours; have := hf.hours i hi; rw [st.works]; omega
    · intro i hi; show 0 ≤ (H'.parts[i]!).cycles ∧ (H'.parts[i]!).cycles ≤ 100000 + 100 * (H'.works + 1)
      have hi : i < H.parts.length := st.pl ▸ hi
      have := (st.part i hi).cycles; have := hf.cycles i hi; rw [st.works]; omega
    · intro i j hi hj; show 0 ≤ (H'.parts[i]!).since[j]! ∧ (H'.parts[i]!).since[j]! ≤ 100 * (H'.works + 1)
      have hi : i < H.parts.length := st.pl ▸ hi
      have hj : j < H.reg.orders.length := st.reg ▸ hj
      have := (st.part i hi).since j hj; have := hf.sinces i j hi hj; rw [st.works]; omega
    · intro i hi; show 0 ≤ (H'.flown[i]!).1 ∧ (H'.flown[i]!).1 ≤ 100 * (H'.works + 1) ∧ 0 ≤ (H'.flown[i]!).2 ∧ (H'.flown[i]!).2 ≤ 100 * (H'.works + 1)
      have hi : i < H.flown.length := st.fl ▸ hi
      have := st.flown i hi; have := hf.flowns i hi; rw [st.works]; omega
    · intro i hi; show -2 ≤ (H'.parts[i]!).im ∧ (H'.parts[i]!).im < H'.reg.machines ∧ -2 ≤ (H'.parts[i]!).ip ∧ (H'.parts[i]!).ip ≤ 4
      have hi : i < H.parts.length := st.pl ▸ hi
      rw [st.reg]; exact (st.part i hi).spot
    · intro i hi; show 0 ≤ (H'.parts[i]!).im → H'.hist[i]! ≠ []
      intro hm
      have hi : i < H.parts.length := st.pl ▸ hi
      rcases (st.part i hi).hist with ⟨e, h⟩ | ⟨_, s0, e, _⟩ | ⟨h, _⟩
      · rw [e]; exact hf.open' i hi (h hm)
      · rw [e]; simp
      · omega
    · intro i hi; show ((H'.hist[i]!).length : Int) ≤ H'.works + 1
      have hi : i < H.parts.length := st.pl ▸ hi
      rw [st.works]; exact len i hi
    · intro i s hi hs
      have hi : i < H.parts.length := st.pl ▸ hi
      show 0 ≤ s.machine ∧ s.machine < H'.reg.machines ∧ _
      rw [st.reg]
      exact ok i s hi hs
  · intro i hi hm
    have hi : i < H.parts.length := st.pl ▸ hi
    show ((H'.hist[i]!)[(H'.hist[i]!).length - 1]!).hours ≤ (H'.flown[((H'.hist[i]!)[(H'.hist[i]!).length - 1]!).machine.toNat]!).1 ∧ ((H'.hist[i]!)[(H'.hist[i]!).length - 1]!).cycles ≤ (H'.flown[((H'.hist[i]!)[(H'.hist[i]!).length - 1]!).machine.toNat]!).2
    rcases (st.part i hi).hist with ⟨e, h⟩ | ⟨ef, s0, e, m0, m1, e1, e2⟩ | ⟨h, _⟩
    · have h1 := ho i hi (h hm)
      have hk := hf.hok i _ hi (last_mem _ (hf.open' i hi (h hm)))
      have hl := hf.flown
      rw [e]
      have := st.flown ((H.hist[i]!)[(H.hist[i]!).length - 1]!).machine.toNat (by omega)
      omega
    · have el : (H.hist[i]! ++ [s0])[(H.hist[i]! ++ [s0]).length - 1]! = s0 := by simp
      rw [e, el, ef]
      omega
    · have : 0 ≤ (H'.parts[i]!).im := hm
      omega

theorem PStp.same (hf : H.Fit) {i : Nat} (hi : i < H.parts.length) (hp : H'.parts[i]! = H.parts[i]!) (hh : H'.hist[i]! = H.hist[i]!) : PStp H H' i := by
  have := hf.spot i hi
  exact ⟨by rw [hp], by rw [hp], by rw [hp], by rw [hp]; omega, by rw [hp]; omega, fun j _ => by rw [hp]; omega, by rw [hp]; exact this, .inl ⟨hh, by rw [hp]; exact id⟩⟩
theorem flown_same (H' : HS) (e : H'.flown = H.flown) : ∀ i, i < H.flown.length → (H.flown[i]!).1 ≤ (H'.flown[i]!).1 ∧ (H'.flown[i]!).1 ≤ (H.flown[i]!).1 + 100 ∧ (H.flown[i]!).2 ≤ (H'.flown[i]!).2 ∧ (H'.flown[i]!).2 ≤ (H.flown[i]!).2 + 100 := by
  intro i _; rw [e]; omega

theorem flySince_len (hours : Int) (bs : List Bool) (ss : List Int) (h : bs.length = ss.length) : (flySince hours bs ss).length = ss.length := by
  simp [flySince, h]
theorem flySince_get (hours : Int) (bs : List Bool) (ss : List Int) (j : Nat) (h : bs.length = ss.length) (hj : j < ss.length) : (flySince hours bs ss)[j]! = if bs[j]! then ss[j]! + hours else ss[j]! := by
  rw [getElem!_pos _ j (by rw [flySince_len hours bs ss h]; exact hj), getElem!_pos bs j (by omega), getElem!_pos ss j hj]
  simp [flySince]

theorem fly_stp (hf : H.Fit) {m hours cyc : Int} (h : H.fly m hours cyc = some H') : Stp H H' := by
  unfold HS.fly at h
  split at h
  · rename_i hg
    injection h with h
    obtain ⟨g1, g2, g3, g4⟩ := flyGuard_parts hg
    have b1 := inB_iff.1 g1
    have b2 := inB_iff.1 g2
    have b3 := inB_iff.1 g3
    have hl := hf.flown
    have hm : m.toNat < H.flown.length := by omega
    subst h
    refine ⟨rfl, rfl, by simp, rfl, by simp [addFlown], rfl, fun i hi => ?_, fun i hi => ?_⟩
    · have e : (H.parts.map (flyPart H m hours cyc))[i]! = flyPart H m hours cyc H.parts[i]! := map_get!' _ _ _ hi
      have hsp := hf.spot i hi
      have hil : H.issued.length = (H.parts[i]!).since.length := by rw [hf.issued, hf.since i hi]
      by_cases him : (H.parts[i]!).im = m
      · have e' : flyPart H m hours cyc H.parts[i]! = { H.parts[i]! with hours := (H.parts[i]!).hours + hours, cycles := (H.parts[i]!).cycles + cyc, since := flySince hours H.issued (H.parts[i]!).since } := by unfold flyPart; rw [if_pos him]
        rw [e'] at e
        refine ⟨by rw [e], by rw [e]; exact flySince_len _ _ _ hil, by rw [e], by rw [e]; simp only; omega, by rw [e]; simp only; omega, fun j hj => ?_, by rw [e]; exact hsp, .inl ⟨rfl, by rw [e]; exact id⟩⟩
        rw [e]
        simp only
        rw [flySince_get _ _ _ j hil (by rw [hf.since i hi]; exact hj)]
        split <;> omega
      · have e' : flyPart H m hours cyc H.parts[i]! = H.parts[i]! := by unfold flyPart; rw [if_neg him]
        rw [e'] at e
        exact PStp.same hf hi e rfl
    · show (H.flown[i]!).1 ≤ ((addFlown H.flown m.toNat hours cyc)[i]!).1 ∧ ((addFlown H.flown m.toNat hours cyc)[i]!).1 ≤ (H.flown[i]!).1 + 100 ∧ (H.flown[i]!).2 ≤ ((addFlown H.flown m.toNat hours cyc)[i]!).2 ∧ ((addFlown H.flown m.toNat hours cyc)[i]!).2 ≤ (H.flown[i]!).2 + 100
      unfold addFlown
      rw [set_get! _ _ _ _ hm]
      split
      · rename_i e; subst e; simp only; omega
      · omega
  · cases h

theorem part_lt {n : Int} (hp : H.part n = true) : 0 ≤ n ∧ n.toNat < H.parts.length := by
  have := inB_iff.1 hp; omega

theorem set_stp (hf : H.Fit) (k : Nat) (hk : k < H.parts.length) (p : PS) (hist : List (List StretchR)) (hl : hist.length = H.hist.length) (hh : ∀ i : Nat, i ≠ k → hist[i]! = H.hist[i]!)
    (hP : PStp H { H with parts := H.parts.set k p, hist := hist } k) : Stp H { H with parts := H.parts.set k p, hist := hist } := by
  refine ⟨rfl, rfl, by simp, rfl, rfl, hl, fun i hi => ?_, flown_same _ rfl⟩
  by_cases e : i = k
  · subst e; exact hP
  · refine PStp.same hf hi ?_ (hh i e)
    show (H.parts.set k p)[i]! = _
    rw [set_get! _ _ _ _ hk, if_neg e]

theorem fit_stp (hf : H.Fit) {n m pl : Int} (h : H.fit n m pl = some H') : Stp H H' := by
  unfold HS.fit at h
  split at h
  · rename_i hg
    injection h with h
    subst h
    simp only [fitGuard, Bool.and_eq_true, decide_eq_true_eq] at hg
    obtain ⟨g1, g2, _, _, g5, _⟩ := hg
    obtain ⟨n0, n1⟩ := part_lt g1
    have b2 := inB_iff.1 g2
    have b5 := inB_iff.1 g5
    have hs := small_of_valid hf.valid
    have hk := hf.kind0 n.toNat n1
    have hpl := hs.kinds (H.parts[n.toNat]!).kind.toNat (by omega)
    have hhl := hf.hist
    have e : (H.parts.set n.toNat { H.parts[n.toNat]! with im := m, ip := pl })[n.toNat]! = { H.parts[n.toNat]! with im := m, ip := pl } := by rw [set_get! _ _ _ _ n1, if_pos rfl]
    refine set_stp hf n.toNat n1 _ _ (by simp) (fun i hi => by rw [set_get! _ _ _ _ (by omega), if_neg hi]) ?_
    refine ⟨by simp only [e], by simp only [e], by simp only [e], by simp only [e]; omega, by simp only [e]; omega, fun j _ => by simp only [e]; omega, by simp only [e]; omega, .inr (.inl ⟨rfl, ⟨m, pl, H.works, -1, (H.flown[m.toNat]!).1, (H.flown[m.toNat]!).2⟩, ?_, by show 0 ≤ m; omega, by show m < H.reg.machines; omega, rfl, rfl⟩)⟩
    simp only
    rw [set_get! _ _ _ _ (by omega), if_pos rfl]
  · cases h

theorem check_stp (hf : H.Fit) {n o : Int} (h : H.check n o = some H') : Stp H H' := by
  unfold HS.check at h
  split at h
  · rename_i hg
    injection h with h
    subst h
    simp only [checkGuard, Bool.and_eq_true] at hg
    obtain ⟨n0, n1⟩ := part_lt hg.1
    have hsp := hf.spot n.toNat n1
    have e : ∀ p : PS, (H.parts.set n.toNat p)[n.toNat]! = p := fun p => by rw [set_get! _ _ _ _ n1, if_pos rfl]
    exact set_stp hf n.toNat n1 _ H.hist rfl (fun _ _ => rfl) ⟨by simp only [e], by simp only [e], by simp only [e, List.length_set], by simp only [e]; omega, by simp only [e]; omega, fun j _ => by simp only [e]; omega, by simp only [e]; omega, .inl ⟨rfl, by simp only [e]; exact id⟩⟩
  · cases h

theorem take_stp (hf : H.Fit) {n : Int} (h : H.take n = some H') : Stp H H' := by
  unfold HS.take at h
  split at h
  · rename_i hg
    injection h with h
    subst h
    simp only [Bool.and_eq_true, decide_eq_true_eq] at hg
    obtain ⟨n0, n1⟩ := part_lt hg.1
    have hsp := hf.spot n.toNat n1
    have hhl := hf.hist
    have e : ∀ p : PS, (H.parts.set n.toNat p)[n.toNat]! = p := fun p => by rw [set_get! _ _ _ _ n1, if_pos rfl]
    have hm0 : 0 ≤ H.reg.machines := by have := hf.flown; omega
    refine set_stp hf n.toNat n1 _ _ (by simp) (fun i hi => by rw [set_get! _ _ _ _ (by omega), if_neg hi]) ⟨by simp only [e], by simp only [e], by simp only [e], by simp only [e]; omega, by simp only [e]; omega, fun j _ => by simp only [e]; omega, by simp only [e]; omega, .inr (.inr ⟨by simp only [e]; omega, hg.2, ?_⟩)⟩
    simp only
    rw [set_get! _ _ _ _ (by omega), if_pos rfl]
  · cases h

theorem issue_stp (hf : H.Fit) {o : Int} (h : H.issue o = some H') : Stp H H' := by
  unfold HS.issue at h
  split at h
  · injection h with h
    subst h
    exact ⟨rfl, rfl, rfl, by simp, rfl, rfl, fun i hi => PStp.same hf hi rfl rfl, flown_same _ rfl⟩
  · cases h

theorem scrap_stp (hf : H.Fit) {n : Int} (h : H.scrap n = some H') : Stp H H' := by
  unfold HS.scrap at h
  split at h
  · rename_i hg
    injection h with h
    subst h
    simp only [Bool.and_eq_true] at hg
    obtain ⟨n0, n1⟩ := part_lt hg.1
    have hsp := hf.spot n.toNat n1
    have e : ∀ p : PS, (H.parts.set n.toNat p)[n.toNat]! = p := fun p => by rw [set_get! _ _ _ _ n1, if_pos rfl]
    have hm0 : 0 ≤ H.reg.machines := by have := hf.flown; omega
    exact set_stp hf n.toNat n1 _ H.hist rfl (fun _ _ => rfl) ⟨by simp only [e], by simp only [e], by simp only [e], by simp only [e]; omega, by simp only [e]; omega, fun j _ => by simp only [e]; omega, by simp only [e]; omega, .inl ⟨rfl, by simp only [e]; omega⟩⟩
  · cases h

theorem work_stp (hf : H.Fit) (x : WorkR) (h : H.doWork x = some H') : Stp H H' := by
  unfold HS.doWork at h
  repeat' split at h
  all_goals first
    | exact fly_stp hf h
    | exact fit_stp hf h
    | exact check_stp hf h
    | exact take_stp hf h
    | exact issue_stp hf h
    | exact scrap_stp hf h
    | cases h

theorem new_fit (r : RegR) (hv : validReg r = true) : (newHS r).Fit ∧ (newHS r).Open := by
  have hs := small_of_valid hv
  have hm := hs.m0
  have hp : ∀ i, i < r.parts.length → (newHS r).parts[i]! = PS.of r.orders.length r.parts[i]! := fun i hi => map_get!' _ _ _ hi
  have hpl : (newHS r).parts.length = r.parts.length := by simp [newHS]
  have hh : ∀ i : Nat, (newHS r).hist[i]! = [] := by
    intro i
    simp only [newHS]
    by_cases hi : i < r.parts.length
    · rw [getElem!_pos _ i (by simpa using hi)]; simp
    · rw [getElem!_neg _ i (by simpa using hi)]; rfl
  constructor
  · constructor
    · exact hv
    · exact hpl
    · simp [newHS]
    · simp [newHS]; omega
    · simp [newHS]
    · intro i hi; rw [hpl] at hi; rw [hp i hi]; simp [PS.of]; rfl
    · intro i hi; rw [hpl] at hi; rw [hp i hi]; simp [PS.of]; rfl
    · show (0 : Int) ≤ 0; omega
    · show (0 : Int) ≤ 200; omega
    · intro i hi; rw [hpl] at hi; rw [hp i hi]; exact ⟨(hs.parts i hi).1, (hs.parts i hi).2.1⟩
    · intro i hi; rw [hpl] at hi; rw [hp i hi]; have := hs.parts i hi; show 0 ≤ (r.parts[i]!).hours ∧ (r.parts[i]!).hours ≤ 100000 + 100 * 0; omega
    · intro i hi; rw [hpl] at hi; rw [hp i hi]; have := hs.parts i hi; show 0 ≤ (r.parts[i]!).cycles ∧ (r.parts[i]!).cycles ≤ 100000 + 100 * 0; omega
    · intro i j hi hj; rw [hpl] at hi; rw [hp i hi]; show 0 ≤ (List.replicate r.orders.length (0 : Int))[j]! ∧ (List.replicate r.orders.length (0 : Int))[j]! ≤ 100 * 0
      have hj : j < r.orders.length := hj
      rw [getElem!_pos _ j (by simpa using hj)]; simp
    · intro i hi
      have hi : i < r.machines.toNat := by simpa [newHS] using hi
      have e : (newHS r).flown[i]! = (0, 0) := by
        show (List.replicate r.machines.toNat ((0 : Int), (0 : Int)))[i]! = _
        rw [getElem!_pos _ i (by simpa using hi)]; simp
      rw [e]; show (0 : Int) ≤ 0 ∧ (0 : Int) ≤ 100 * 0 ∧ (0 : Int) ≤ 0 ∧ (0 : Int) ≤ 100 * 0; omega
    · intro i hi; rw [hpl] at hi; rw [hp i hi]; show -2 ≤ (-1 : Int) ∧ (-1 : Int) < r.machines ∧ -2 ≤ (-1 : Int) ∧ (-1 : Int) ≤ 4; omega
    · intro i hi h; rw [hpl] at hi; rw [hp i hi] at h; exact absurd h (by show ¬ (0 : Int) ≤ -1; omega)
    · intro i hi; rw [hh i]; show ((0 : Nat) : Int) ≤ 0; omega
    · intro i s hi hs; rw [hh i] at hs; cases hs
  · intro i hi h; rw [hpl] at hi; rw [hp i hi] at h; exact absurd h (by show ¬ (0 : Int) ≤ -1; omega)

end Go.Proofs.YtchnhjffpldpiaaDoor
