/- A hangar while it is made: the parts up to k. No walk. -/
import Derived.Test.YtchnhjffpldpiaaDoorMem2
import Derived.Maps.AppendAt
namespace Go.Proofs.YtchnhjffpldpiaaDoor
open Go.RowKit

def okP (k : Nat) : Slot → Prop
  | .h | .ib | .fb | .hr => True
  | .pr => 0 < k
  | .part i | .since i | .chk i => i < k
  | .hist _ => False

def cellsP (L : HL) (r : RegR) (k : Nat) : Slot → List Value
  | .h => [.slice L.ka r.kinds.length L.kc, .slice L.pa r.parts.length L.pc, .int .i64 r.machines, .slice L.oa r.orders.length L.oc,
      partsV L k, .slice (some ⟨L.ib, 0, none⟩) r.orders.length r.orders.length, .slice (some ⟨L.fb, 0, none⟩) r.machines.toNat r.machines.toNat,
      .int .i64 0, .slice (some ⟨L.hr, 0, none⟩) r.parts.length r.parts.length]
  | .pr => (List.range k).map (fun i => Value.pointer (some ⟨L.pb i, 0, none⟩)) ++ L.pspare
  | .ib => List.replicate r.orders.length (.bool false)
  | .fb => List.replicate (r.machines.toNat * 2) (.int .i64 0)
  | .hr => List.replicate r.parts.length (.slice none 0 0)
  | .part i => partCells L (PS.of r.orders.length r.parts[i]!) r.orders.length i
  | .since _ => List.replicate r.orders.length (.int .i64 0)
  | .chk _ => List.replicate r.orders.length (.bool false)
  | .hist _ => []

structure PartH (w : World) (B : Nat) (L : HL) (r : RegR) (k : Nat) : Prop where
  glb : Glb w B
  reg : RegRd w B L.ka L.pa L.oa r.kinds.length r.parts.length r.orders.length r
  blocks : ∀ s, okP k s → w.heap[L.blk s]? = some (.cells (cellsP L r k s).toArray (tyOf s) (0, 0)) ∧ B ≤ L.blk s
  inj : ∀ s t, okP k s → okP k t → L.blk s = L.blk t → s = t
  pcap : 0 < k → k ≤ L.pcap ∧ L.pcap ≤ maxLen ∧ L.pspare.length = L.pcap - k

variable {w w' : World} {B : Nat} {L : HL} {r : RegR} {k : Nat}

theorem PartH.lt (h : PartH w B L r k) (s : Slot) (hs : okP k s) : L.blk s < w.heap.size := (Array.getElem?_eq_some_iff.1 (h.blocks s hs).1).1
theorem PartH.base (h : PartH w B L r k) : B ≤ w.heap.size := Nat.le_of_lt (Nat.lt_of_le_of_lt (h.blocks .h trivial).2 (h.lt .h trivial))
theorem PartH.cell (h : PartH w B L r k) (s : Slot) (hs : okP k s) (i : Nat) : w.cell? ⟨L.blk s, i, none⟩ = (cellsP L r k s)[i]? := cell_blk (h.blocks s hs).1 i
theorem PartH.frozen (h : PartH w B L r k) (s : Slot) (hs : okP k s) (i : Nat) : w.frozen? ⟨L.blk s, i, none⟩ = false := frozen_blk (h.blocks s hs).1 i
theorem PartH.below (h : PartH w B L r k) (hb : Below w.heap.size w w') : PartH w' B L r k :=
  ⟨h.glb.below (hb.mono h.base), h.reg.below (hb.mono h.base), fun s hs => ⟨by rw [hb.block _ (h.lt s hs)]; exact (h.blocks s hs).1, (h.blocks s hs).2⟩, h.inj, h.pcap⟩

theorem flatMap_rep (n : Nat) : (List.replicate n ((0 : Int), (0 : Int))).flatMap encPair = List.replicate (n * 2) (.int .i64 0) := by
  induction n with
  | zero => rfl
  | succ n ih => rw [List.replicate_succ, List.flatMap_cons, ih, Nat.succ_mul, Nat.add_comm, ← List.replicate_append_replicate]; rfl

theorem map_get!' {α β : Type} [Inhabited α] [Inhabited β] (f : α → β) (l : List α) (i : Nat) (hi : i < l.length) : (l.map f)[i]! = f l[i]! := by
  rw [getElem!_pos (l.map f) i (by simpa using hi), getElem!_pos l i hi, List.getElem_map]

/-- All parts made: a new hangar. -/
theorem PartH.done (h : PartH w B L r r.parts.length) : IsH w B L (newHS r) := by
  have hn : (newHS r).parts.length = r.parts.length := by simp [newHS]
  have hh : ∀ i : Nat, (newHS r).hist[i]! = [] := by
    intro i
    simp only [newHS]
    by_cases hi : i < r.parts.length
    · rw [getElem!_pos _ i (by simpa using hi)]; simp
    · rw [getElem!_neg _ i (by simpa using hi)]; rfl
  have ok : ∀ s, okSlot (newHS r) s → okP r.parts.length s := by
    intro s hs
    cases s <;> simp only [okSlot, hn, hh] at hs <;> first | trivial | exact hs | exact absurd rfl hs.2
  have hp : ∀ i, i < r.parts.length → (newHS r).parts[i]! = PS.of r.orders.length r.parts[i]! := fun i hi => map_get!' _ _ _ hi
  refine ⟨h.glb, h.reg, fun s hs => ⟨?_, (h.blocks s (ok s hs)).2⟩, fun s t hs ht => h.inj s t (ok s hs) (ok t ht), fun i _ he => absurd (hh i) he, fun hp => by rw [hn] at hp ⊢; exact (h.pcap hp).1⟩
  rw [(h.blocks s (ok s hs)).1]
  congr 3
  have hs' := ok s hs
  cases s with
  | h => simp only [cellsP, cellsOf, hn]; simp [newHS]
  | pr => simp only [cellsP, cellsOf, hn]
  | ib => simp [cellsP, cellsOf, newHS]
  | fb => simp only [cellsP, cellsOf, newHS, flatMap_rep]
  | hr =>
    simp only [cellsP, cellsOf, hn, hh, histV, if_true]
    apply List.ext_getElem <;> simp
  | part i => simp only [cellsP, cellsOf, hp i hs']; rfl
  | since i => simp only [cellsP, cellsOf, hp i hs']; simp [PS.of]
  | chk i => simp only [cellsP, cellsOf, hp i hs']; simp [PS.of]
  | hist i => exact hs'.elim

theorem PartH.ownsParts (h : PartH w B L r k) : w.ownsRow B 112 1 (partsV L k) k ((List.range k).map (fun i => Value.pointer (some ⟨L.pb i, 0, none⟩))) := by
  refine ⟨by simp, ?_⟩
  unfold partsV
  by_cases he : k = 0
  · rw [if_pos he]; exact .inl ⟨rfl, he⟩
  · rw [if_neg he]
    obtain ⟨h1, h2, h3⟩ := h.pcap (by omega)
    have hb := h.blocks .pr (show 0 < k by omega)
    refine .inr ⟨L.pr, L.pcap, _, rfl, hb.2, hb.1, h1, h2, ?_, ?_⟩
    · simp only [cellsP, List.size_toArray, List.length_append, List.length_map, List.length_range, h3]
      omega
    · simp only [cellsP]
      rw [Nat.mul_one]
      exact List.take_left' (by simp)

/-- One more part. -/
theorem PartH.next (h : PartH w B L r k) {w3 w4 : World} (s0 c0 p0 : Nat) (cap g : Nat) (hb : Below w.heap.size w w3)
    (ls : w.heap.size ≤ s0) (lc : w.heap.size ≤ c0) (lp : w.heap.size ≤ p0) (n1 : s0 ≠ c0) (n2 : s0 ≠ p0) (n3 : c0 ≠ p0)
    (hs : w3.heap[s0]? = some (.cells (List.replicate r.orders.length (.int .i64 0)).toArray 3 (0, 0)))
    (hc : w3.heap[c0]? = some (.cells (List.replicate r.orders.length (.bool false)).toArray 4 (0, 0)))
    (hp : w3.heap[p0]? = some (.cells #[.int .i64 (r.parts[k]!).kind, .int .i64 (r.parts[k]!).hours, .int .i64 (r.parts[k]!).cycles, .bool (r.parts[k]!).known, .int .i64 (-1), .int .i64 (-1), .slice (some ⟨s0, 0, none⟩) r.orders.length r.orders.length, .slice (some ⟨c0, 0, none⟩) r.orders.length r.orders.length] 116 (0, 0)))
    (O : w4.ownsRow B 112 1 (.slice (some ⟨g, 0, none⟩) (k + 1) cap) (k + 1) ((List.range k).map (fun i => Value.pointer (some ⟨L.pb i, 0, none⟩)) ++ [.pointer (some ⟨p0, 0, none⟩)])) (G : w3.grownBy w4 (partsV L k).ownBlock)
    (A : (partsV L k).ownBlock = some g ∨ g = w3.heap.size) :
    ∃ L', L'.hb = L.hb ∧ L'.ka = L.ka ∧ L'.pa = L.pa ∧ L'.oa = L.oa ∧ L'.kc = L.kc ∧ L'.pc = L.pc ∧ L'.oc = L.oc ∧ PartH (w4.setCell ⟨L.hb, 4, none⟩ (.slice (some ⟨g, 0, none⟩) (k + 1) cap)) B L' r (k + 1) := by
  rcases O.2 with ⟨_, hz⟩ | ⟨g', cap', cur, hv, hBg, hg, hcap, hcm, hcs, ht⟩
  · omega
  cases hv
  have hsz := hb.size
  have hgz := G.size
  have hB : B ≤ w.heap.size := h.base
  have hown : ∀ b, (partsV L k).ownBlock = some b → b = L.pr ∧ 0 < k := by
    intro b hb'
    unfold partsV at hb'
    split at hb'
    · simp [Value.ownBlock] at hb'
    · simp [Value.ownBlock] at hb'
      exact ⟨hb'.symm, by omega⟩
  have ownlt : ∀ b, (partsV L k).ownBlock = some b → b < w.heap.size := by
    intro b hb'
    obtain ⟨e, hk⟩ := hown b hb'
    rw [e]; exact h.lt .pr hk
  have hgA : (0 < k ∧ g = L.pr) ∨ g = w3.heap.size := by
    rcases A with A | A
    · obtain ⟨e, hk⟩ := hown g A; exact .inl ⟨hk, e⟩
    · exact .inr A
  have hblk : ∀ s, okP k s → s ≠ .pr → w4.heap[L.blk s]? = w.heap[L.blk s]? := by
    intro s hs hne
    have hlt := h.lt s hs
    rw [G.block _ (by omega) ?_, hb.block _ hlt]
    intro e
    obtain ⟨e1, e2⟩ := hown _ e.symm
    exact hne (h.inj s .pr hs e2 e1)
  have hgne : ∀ s, okP k s → s ≠ .pr → L.blk s ≠ g := by
    intro s hs hne e
    have hlt := h.lt s hs
    rcases hgA with ⟨e2, e3⟩ | e3
    · exact hne (h.inj s .pr hs e2 (e.trans e3))
    · omega
  have hnew : ∀ x, w.heap.size ≤ x → x < w3.heap.size → w4.heap[x]? = w3.heap[x]? := by
    intro x h1 h2
    refine G.block x h2 ?_
    intro e
    have := ownlt x e.symm
    omega
  have hs3 : s0 < w3.heap.size := (Array.getElem?_eq_some_iff.1 hs).1
  have hc3 : c0 < w3.heap.size := (Array.getElem?_eq_some_iff.1 hc).1
  have hp3 : p0 < w3.heap.size := (Array.getElem?_eq_some_iff.1 hp).1
  have hgr : g < w.heap.size ∨ g = w3.heap.size := by
    rcases hgA with ⟨e2, e3⟩ | e3
    · have := h.lt .pr e2
      simp only [HL.blk] at this
      exact .inl (by omega)
    · exact .inr e3
  have gs : g ≠ s0 := by omega
  have gc : g ≠ c0 := by omega
  have gp : g ≠ p0 := by omega
  have hlb := h.lt .h trivial
  simp only [HL.blk] at hlb
  have hhg : L.hb ≠ g := hgne .h trivial (by simp)
  have hBW : Below B w (w4.setCell ⟨L.hb, 4, none⟩ (.slice (some ⟨g, 0, none⟩) (k + 1) cap)) := by
    have b1 : Below B w w4 := ((hb.mono hB).grown G (by omega) fun b e => by
      obtain ⟨e1, e2⟩ := hown b e
      have := (h.blocks .pr e2).2
      simp only [HL.blk] at this
      omega)
    exact b1.setCell (p := ⟨L.hb, 4, none⟩) (h.blocks .h trivial).2 _
  obtain ⟨L', hL'⟩ : ∃ L' : HL, L' = { L with pr := g, pcap := cap, pspare := cur.toList.drop (k + 1), pb := fun i => if i = k then p0 else L.pb i, sb := fun i => if i = k then s0 else L.sb i, cb := fun i => if i = k then c0 else L.cb i } := ⟨_, rfl⟩
  have e1 : L'.hb = L.hb := by rw [hL']
  have epr : L'.pr = g := by rw [hL']
  have epb : ∀ i, L'.pb i = if i = k then p0 else L.pb i := by intro i; rw [hL']
  have esb : ∀ i, L'.sb i = if i = k then s0 else L.sb i := by intro i; rw [hL']
  have ecb : ∀ i, L'.cb i = if i = k then c0 else L.cb i := by intro i; rw [hL']
  have cls : ∀ s, okP (k + 1) s → s = .pr ∨ s = .part k ∨ s = .since k ∨ s = .chk k ∨ (okP k s ∧ s ≠ .pr ∧ L'.blk s = L.blk s) := by
    intro s hs
    cases s with
    | pr => exact .inl rfl
    | part i =>
      by_cases e : i = k
      · subst e; exact .inr (.inl rfl)
      · exact .inr (.inr (.inr (.inr ⟨by simp only [okP] at hs ⊢; omega, by simp, by simp only [HL.blk, epb, if_neg e]⟩)))
    | since i =>
      by_cases e : i = k
      · subst e; exact .inr (.inr (.inl rfl))
      · exact .inr (.inr (.inr (.inr ⟨by simp only [okP] at hs ⊢; omega, by simp, by simp only [HL.blk, esb, if_neg e]⟩)))
    | chk i =>
      by_cases e : i = k
      · subst e; exact .inr (.inr (.inr (.inl rfl)))
      · exact .inr (.inr (.inr (.inr ⟨by simp only [okP] at hs ⊢; omega, by simp, by simp only [HL.blk, ecb, if_neg e]⟩)))
    | hist i => exact hs.elim
    | _ => exact .inr (.inr (.inr (.inr ⟨trivial, by simp, by rw [hL']; rfl⟩)))
  refine ⟨L', e1, by rw [hL'], by rw [hL'], by rw [hL'], by rw [hL'], by rw [hL'], by rw [hL'], h.glb.below hBW, by rw [hL']; exact h.reg.below hBW, ?_, ?_, ?_⟩
  · intro s hsl
    rcases cls s hsl with rfl | rfl | rfl | rfl | ⟨h1, h2, h3⟩
    · show (_ : World).heap[L'.pr]? = _ ∧ B ≤ L'.pr
      rw [epr]
      refine ⟨?_, hBg⟩
      rw [Below.heap_setCell _ _ _ _ (fun e => hhg e.symm), hg]
      congr 3
      have h5 : cellsP L' r (k + 1) .pr = ((List.range k).map (fun i => Value.pointer (some ⟨L.pb i, 0, none⟩)) ++ [.pointer (some ⟨p0, 0, none⟩)]) ++ cur.toList.drop (k + 1) := by
        show (List.range (k + 1)).map (fun i => Value.pointer (some ⟨L'.pb i, 0, none⟩)) ++ L'.pspare = _
        rw [List.range_succ, List.map_append]
        congr 1
        · congr 1
          · refine List.map_congr_left fun i hi => ?_
            rw [epb, if_neg (by have := List.mem_range.1 hi; omega)]
          · simp [epb]
        · rw [hL']
      rw [h5, ← ht, Nat.mul_one, List.take_append_drop]
    · show (_ : World).heap[L'.pb k]? = _ ∧ B ≤ L'.pb k
      rw [epb, if_pos rfl]
      refine ⟨?_, by omega⟩
      rw [Below.heap_setCell _ _ _ _ (by simp only; omega), hnew _ lp hp3, hp]
      congr 2
      show _ = (partCells L' _ _ k).toArray
      unfold partCells PS.of
      rw [esb, ecb, if_pos rfl, if_pos rfl]
    · show (_ : World).heap[L'.sb k]? = _ ∧ B ≤ L'.sb k
      rw [esb, if_pos rfl]
      refine ⟨?_, by omega⟩
      rw [Below.heap_setCell _ _ _ _ (by simp only; omega), hnew _ ls hs3, hs]
      rfl
    · show (_ : World).heap[L'.cb k]? = _ ∧ B ≤ L'.cb k
      rw [ecb, if_pos rfl]
      refine ⟨?_, by omega⟩
      rw [Below.heap_setCell _ _ _ _ (by simp only; omega), hnew _ lc hc3, hc]
      rfl
    · rw [h3]
      refine ⟨?_, (h.blocks s h1).2⟩
      by_cases e2 : s = .h
      · subst e2
        have := heap_setCell_at (w := w4) (b := L.hb) (c := cellsP L r k .h) (T := tyOf .h) (f := (0, 0)) (by rw [show L.hb = L.blk .h from rfl, hblk .h trivial (by simp)]; exact (h.blocks .h trivial).1) 4 (.slice (some ⟨g, 0, none⟩) (k + 1) cap)
        rw [show L.blk .h = L.hb from rfl, this]
        congr 2
        rw [hL']
        simp [cellsP, partsV]
      · rw [Below.heap_setCell _ _ _ _ (fun e3 => e2 (h.inj s .h h1 trivial e3)), hblk s h1 h2, (h.blocks s h1).1]
        congr 3
        cases s with
        | h => exact absurd rfl e2
        | pr => exact absurd rfl h2
        | part i =>
          have hik : i ≠ k := by simp only [okP] at h1; omega
          simp only [cellsP, partCells, esb, ecb, if_neg hik]
        | hist i => exact h1.elim
        | _ => rfl
  · have kR : L'.blk .pr = g := epr
    have kP : L'.blk (.part k) = p0 := by show L'.pb k = p0; rw [epb, if_pos rfl]
    have kS : L'.blk (.since k) = s0 := by show L'.sb k = s0; rw [esb, if_pos rfl]
    have kC : L'.blk (.chk k) = c0 := by show L'.cb k = c0; rw [ecb, if_pos rfl]
    intro s t hs1 ht1 hst
    rcases cls s hs1 with rfl | rfl | rfl | rfl | ⟨h1, h2, h3⟩ <;> rcases cls t ht1 with rfl | rfl | rfl | rfl | ⟨h4, h5, h6⟩ <;> first
      | rfl
      | (exfalso; simp only [kR, kP, kS, kC] at hst; omega)
      | (exfalso; rw [h6] at hst; have := h.lt t h4; have := hgne t h4 h5; simp only [kR, kP, kS, kC] at hst; omega)
      | (exfalso; rw [h3] at hst; have := h.lt s h1; have := hgne s h1 h2; simp only [kR, kP, kS, kC] at hst; omega)
      | exact h.inj s t h1 h4 (by rw [h3, h6] at hst; exact hst)
  · intro _
    rw [hL']
    simp only
    refine ⟨by omega, hcm, ?_⟩
    rw [List.length_drop, Array.length_toList, hcs]
    omega

/-- No part yet. -/
theorem PartH.start {w W : World} {ka pa oa : Option Addr} {nk np no : Nat} (hG0 : Glb w w.heap.size) (hR0 : RegRd w w.heap.size ka pa oa nk np no r) (ek : r.kinds.length = nk) (ep : r.parts.length = np) (eo : r.orders.length = no)
    (hb : Below w.heap.size w W) (kc pc oc nm : Nat) (hm : r.machines = nm)
    (ib fb hr hbk : Nat) (l1 : w.heap.size + 1 ≤ ib) (l2 : w.heap.size + 1 ≤ fb) (l3 : w.heap.size + 1 ≤ hr) (l4 : w.heap.size + 1 ≤ hbk) (n1 : ib ≠ fb) (n2 : ib ≠ hr) (n3 : ib ≠ hbk) (n4 : fb ≠ hr) (n5 : fb ≠ hbk) (n6 : hr ≠ hbk)
    (h0 : W.heap[w.heap.size]? = some (.cells #[.slice ka nk kc, .slice pa np pc, .int .i64 (nm : Int), .slice oa no oc] 38 (0, 0)))
    (h1 : W.heap[ib]? = some (.cells (Array.replicate no (.bool false)) 4 (0, 0)))
    (h2 : W.heap[fb]? = some (.cells (Array.replicate (nm * 2) (.int .i64 0)) 113 (0, 0)))
    (h3 : W.heap[hr]? = some (.cells (Array.replicate np (.slice none 0 0)) 57 (0, 0)))
    (h4 : W.heap[hbk]? = some (.cells #[.slice ka nk kc, .slice pa np pc, .int .i64 (nm : Int), .slice oa no oc, .slice none 0 0, .slice (some ⟨ib, 0, none⟩) no no, .slice (some ⟨fb, 0, none⟩) nm nm, .int .i64 0, .slice (some ⟨hr, 0, none⟩) np np] 132 (0, 0))) :
    ∃ L : HL, Value.pointer (some ⟨hbk, 0, none⟩) = .pointer (some ⟨L.hb, 0, none⟩) ∧ L.ka = ka ∧ L.pa = pa ∧ L.oa = oa ∧ W.cell? ⟨w.heap.size, 1, none⟩ = some (.slice pa np pc) ∧ W.cell? ⟨w.heap.size, 3, none⟩ = some (.slice oa no oc) ∧
      Below w.heap.size w W ∧ PartH W (w.heap.size + 1) L r 0 := by
  subst ek ep eo
  have hG := (hG0.below hb).up (Nat.le_succ _)
  have hR := (hR0.below hb).up (Nat.le_succ _)
  have hmn : r.machines.toNat = nm := by omega
  refine ⟨⟨ka, kc, pa, pc, oa, oc, hbk, 0, 0, [], ib, fb, hr, fun _ => 0, fun _ => 0, fun _ => 0, fun _ => 0, fun _ => 0, fun _ => []⟩, rfl, rfl, rfl, rfl, by simp [World.cell?, h0], by simp [World.cell?, h0], hb, hG, hR, ?_, ?_, fun h => by omega⟩
  · intro s hs
    cases s with
    | h => refine ⟨h4.trans ?_, l4⟩; simp only [cellsP, tyOf, hm, Int.toNat_natCast, partsV, if_true]
    | ib => refine ⟨h1.trans ?_, l1⟩; simp only [cellsP, tyOf, List.toArray_replicate]
    | fb => refine ⟨h2.trans ?_, l2⟩; simp only [cellsP, tyOf, hmn, List.toArray_replicate]
    | hr => refine ⟨h3.trans ?_, l3⟩; simp only [cellsP, tyOf, List.toArray_replicate]
    | pr => simp [okP] at hs
    | part i => simp [okP] at hs
    | since i => simp [okP] at hs
    | chk i => simp [okP] at hs
    | hist i => exact hs.elim
  · intro s t hs ht e
    cases s <;> cases t <;> simp only [okP, HL.blk, Nat.not_lt_zero, Nat.lt_irrefl] at hs ht e ⊢ <;> omega
end Go.Proofs.YtchnhjffpldpiaaDoor
