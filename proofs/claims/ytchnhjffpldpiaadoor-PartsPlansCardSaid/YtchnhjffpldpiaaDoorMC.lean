/- Mem2, Part, H1, H2, H3, H4, H5. -/
import Derived.Test.YtchnhjffpldpiaaDoorMA
import Derived.Maps.AppendAt
import Derived.Deep.QuietTactic
import Derived.BigQuiet
import Derived.BigRegion
import Derived.Deep.DrawnRows
import Derived.Deep.RegionHeld3
import Derived.OwnWalk
/- Stores into a hangar. No walk. -/
namespace Go.Proofs.YtchnhjffpldpiaaDoor
open Go.RowKit

variable {w w' : World} {B : Nat} {L : HL} {H : HS}

theorem set_get! {α : Type} [Inhabited α] (l : List α) (k i : Nat) (x : α) (hk : k < l.length) : (l.set k x)[i]! = if i = k then x else l[i]! := by
  by_cases h : i = k
  · subst h; simp [hk]
  · rw [if_neg h]
    simp only [List.getElem!_eq_getElem?_getD]
    rw [List.getElem?_set_ne (by omega)]

def HS.setPart (H : HS) (k : Nat) (p : PS) : HS := { H with parts := H.parts.set k p }
theorem HS.setPart_len (H : HS) (k : Nat) (p : PS) : (H.setPart k p).parts.length = H.parts.length := by simp [HS.setPart]
theorem HS.setPart_get (H : HS) (k i : Nat) (p : PS) (hk : k < H.parts.length) : (H.setPart k p).parts[i]! = if i = k then p else H.parts[i]! := set_get! _ _ _ _ hk

theorem IsH.putPart (h : IsH w B L H) (k : Nat) (hk : k < H.parts.length) (o : Nat) (v : Value) (p' : PS)
    (hc : partCells L p' H.reg.orders.length k = (partCells L H.parts[k]! H.reg.orders.length k).set o v) (hs : p'.since = (H.parts[k]!).since) (hch : p'.chk = (H.parts[k]!).chk) :
    IsH (w.setCell ⟨L.pb k, o, none⟩ v) B L (H.setPart k p') := by
  refine h.put (.part k) hk o v (H' := H.setPart k p') rfl (H.setPart_len k p') (fun i => Iff.rfl) ?_ ?_ (fun i => rfl)
  · show partCells L (H.setPart k p').parts[k]! H.reg.orders.length k = _
    rw [H.setPart_get k k p' hk, if_pos rfl]
    exact hc
  · intro t hne ht
    cases t with
    | h => simp only [cellsOf, H.setPart_len]; rfl
    | pr => simp only [cellsOf, H.setPart_len]
    | ib => rfl
    | fb => rfl
    | hr => simp only [cellsOf, H.setPart_len]; rfl
    | part i =>
      have : i ≠ k := fun e => hne (by rw [e])
      simp only [cellsOf, H.setPart_get k i p' hk, if_neg this]
      rfl
    | since i =>
      simp only [cellsOf, H.setPart_get k i p' hk]
      split
      · rename_i e; subst e; rw [hs]
      · rfl
    | chk i =>
      simp only [cellsOf, H.setPart_get k i p' hk]
      split
      · rename_i e; subst e; rw [hch]
      · rfl
    | hist i => rfl

theorem partCells_since (L : HL) (p : PS) (no i : Nat) (s : List Int) : partCells L { p with since := s } no i = partCells L p no i := rfl
theorem partCells_chk (L : HL) (p : PS) (no i : Nat) (s : List Bool) : partCells L { p with chk := s } no i = partCells L p no i := rfl

theorem IsH.putSince (h : IsH w B L H) (k : Nat) (hk : k < H.parts.length) (j : Nat) (v : Int) :
    IsH (w.setCell ⟨L.sb k, j, none⟩ (.int .i64 v)) B L (H.setPart k { H.parts[k]! with since := (H.parts[k]!).since.set j v }) := by
  refine h.put (.since k) hk j (.int .i64 v) (H' := H.setPart k { H.parts[k]! with since := (H.parts[k]!).since.set j v }) rfl (H.setPart_len k _) (fun i => Iff.rfl) ?_ ?_ (fun i => rfl)
  · simp only [cellsOf, H.setPart_get k k _ hk, if_true]
    rw [List.map_set]
  · intro t hne ht
    cases t with
    | h => simp only [cellsOf, H.setPart_len]; rfl
    | pr => simp only [cellsOf, H.setPart_len]
    | ib => rfl
    | fb => rfl
    | hr => simp only [cellsOf, H.setPart_len]; rfl
    | part i =>
      simp only [cellsOf, H.setPart_get k i _ hk]
      split
      · rename_i e; subst e; rfl
      · rfl
    | since i =>
      have : i ≠ k := fun e => hne (by rw [e])
      simp only [cellsOf, H.setPart_get k i _ hk, if_neg this]
    | chk i =>
      simp only [cellsOf, H.setPart_get k i _ hk]
      split
      · rename_i e; subst e; rfl
      · rfl
    | hist i => rfl

theorem IsH.putChk (h : IsH w B L H) (k : Nat) (hk : k < H.parts.length) (j : Nat) (v : Bool) :
    IsH (w.setCell ⟨L.cb k, j, none⟩ (.bool v)) B L (H.setPart k { H.parts[k]! with chk := (H.parts[k]!).chk.set j v }) := by
  refine h.put (.chk k) hk j (.bool v) (H' := H.setPart k { H.parts[k]! with chk := (H.parts[k]!).chk.set j v }) rfl (H.setPart_len k _) (fun i => Iff.rfl) ?_ ?_ (fun i => rfl)
  · simp only [cellsOf, H.setPart_get k k _ hk, if_true]
    rw [List.map_set]
  · intro t hne ht
    cases t with
    | h => simp only [cellsOf, H.setPart_len]; rfl
    | pr => simp only [cellsOf, H.setPart_len]
    | ib => rfl
    | fb => rfl
    | hr => simp only [cellsOf, H.setPart_len]; rfl
    | part i =>
      simp only [cellsOf, H.setPart_get k i _ hk]
      split
      · rename_i e; subst e; rfl
      · rfl
    | chk i =>
      have : i ≠ k := fun e => hne (by rw [e])
      simp only [cellsOf, H.setPart_get k i _ hk, if_neg this]
    | since i =>
      simp only [cellsOf, H.setPart_get k i _ hk]
      split
      · rename_i e; subst e; rfl
      · rfl
    | hist i => rfl

theorem IsH.putIssued (h : IsH w B L H) (j : Nat) (v : Bool) : IsH (w.setCell ⟨L.ib, j, none⟩ (.bool v)) B L { H with issued := H.issued.set j v } := by
  refine h.put .ib trivial j (.bool v) (H' := { H with issued := H.issued.set j v }) rfl rfl (fun i => Iff.rfl) ?_ ?_ (fun i => rfl)
  · simp only [cellsOf]; rw [List.map_set]
  · intro t hne ht
    cases t <;> first | rfl | exact absurd rfl hne

theorem IsH.putWorks (h : IsH w B L H) (v : Int) : IsH (w.setCell ⟨L.hb, 7, none⟩ (.int .i64 v)) B L { H with works := v } := by
  refine h.put .h trivial 7 (.int .i64 v) (H' := { H with works := v }) rfl rfl (fun i => Iff.rfl) ?_ ?_ (fun i => rfl)
  · rfl
  · intro t hne ht
    cases t <;> first | rfl | exact absurd rfl hne

/-- One cell of a row of elements of k cells. -/
theorem flatMap_set {α : Type} [Inhabited α] (enc : α → List Value) (k : Nat) (hk : ∀ x, (enc x).length = k) (l : List α) : ∀ (j i : Nat) (x : α) (v : Value), j < l.length → i < k → enc x = (enc l[j]!).set i v →
    (l.set j x).flatMap enc = (l.flatMap enc).set (j * k + i) v := by
  induction l with
  | nil => intro j i x v hj; simp at hj
  | cons y ys ih =>
    intro j i x v hj hi hx
    cases j with
    | zero =>
      simp only [List.set_cons_zero, List.flatMap_cons, Nat.zero_mul, Nat.zero_add]
      rw [List.set_append_left _ _ (by rw [hk]; exact hi), hx]
      rfl
    | succ j =>
      simp only [List.set_cons_succ, List.flatMap_cons]
      rw [List.set_append_right _ _ (by rw [hk, Nat.succ_mul]; omega), hk, show (j + 1) * k + i - k = j * k + i by rw [Nat.succ_mul]; omega,
        ih j i x v (by simpa using hj) hi (by simpa using hx)]

theorem IsH.putFlown0 (h : IsH w B L H) (j : Nat) (hj : j < H.flown.length) (v : Int) : IsH (w.setCell ⟨L.fb, j * 2, none⟩ (.int .i64 v)) B L { H with flown := H.flown.set j (v, (H.flown[j]!).2) } := by
  refine h.put .fb trivial (j * 2) (.int .i64 v) (H' := { H with flown := H.flown.set j (v, (H.flown[j]!).2) }) rfl rfl (fun i => Iff.rfl) ?_ ?_ (fun i => rfl)
  · have := flatMap_set encPair 2 (fun _ => rfl) H.flown j 0 (v, (H.flown[j]!).2) (.int .i64 v) hj (by omega) rfl
    rw [Nat.add_zero] at this
    exact this
  · intro t hne ht
    cases t with
    | fb => exact absurd rfl hne
    | h => simp only [cellsOf, List.length_set]
    | _ => rfl
theorem IsH.putFlown1 (h : IsH w B L H) (j : Nat) (hj : j < H.flown.length) (v : Int) : IsH (w.setCell ⟨L.fb, j * 2 + 1, none⟩ (.int .i64 v)) B L { H with flown := H.flown.set j ((H.flown[j]!).1, v) } := by
  refine h.put .fb trivial (j * 2 + 1) (.int .i64 v) (H' := { H with flown := H.flown.set j ((H.flown[j]!).1, v) }) rfl rfl (fun i => Iff.rfl) ?_ ?_ (fun i => rfl)
  · exact flatMap_set encPair 2 (fun _ => rfl) H.flown j 1 ((H.flown[j]!).1, v) (.int .i64 v) hj (by omega) rfl
  · intro t hne ht
    cases t with
    | fb => exact absurd rfl hne
    | h => simp only [cellsOf, List.length_set]
    | _ => rfl

/-- A cell of the last stretch of a history. -/
theorem IsH.putHist (h : IsH w B L H) (k : Nat) (hk : k < H.parts.length) (hl : H.hist.length = H.parts.length) (j : Nat) (hj : j < (H.hist[k]!).length) (i : Nat) (hi : i < 6) (x : StretchR) (v : Value) (hx : encStretch x = (encStretch (H.hist[k]!)[j]!).set i v) :
    IsH (w.setCell ⟨L.gb k, j * 6 + i, none⟩ v) B L { H with hist := H.hist.set k ((H.hist[k]!).set j x) } := by
  have hne0 : H.hist[k]! ≠ [] := by intro e; rw [e] at hj; simp at hj
  have hkh : k < H.hist.length := by omega
  have hg : ∀ i : Nat, (H.hist.set k ((H.hist[k]!).set j x))[i]! = if i = k then (H.hist[k]!).set j x else H.hist[i]! := fun i => set_get! _ _ _ _ hkh
  refine h.put (.hist k) ⟨hk, hne0⟩ (j * 6 + i) v (H' := { H with hist := H.hist.set k ((H.hist[k]!).set j x) }) rfl rfl ?_ ?_ ?_ ?_
  · intro i
    simp only [hg]
    split
    · rename_i e; subst e
      constructor
      · intro e; have e2 := congrArg List.length e; rw [List.length_set, List.length_nil] at e2; exact List.eq_nil_of_length_eq_zero e2
      · intro e; exact absurd e hne0
    · exact Iff.rfl
  · have hlen : ((H.hist[k]!).flatMap encStretch).length = (H.hist[k]!).length * 6 := by
      generalize H.hist[k]! = l
      induction l with
      | nil => rfl
      | cons a l ih => simp only [List.flatMap_cons, List.length_append, ih, List.length_cons]; rw [Nat.succ_mul]; simp [encStretch]; omega
    have : j * 6 + i < (H.hist[k]!).length * 6 := by omega
    simp only [cellsOf, hg, if_true]
    rw [flatMap_set encStretch 6 (fun _ => rfl) _ j i x v hj hi hx, List.set_append_left _ _ (by omega)]
  · intro t hne ht
    cases t with
    | hist i =>
      have : i ≠ k := fun e => hne (by rw [e])
      simp only [cellsOf, hg, if_neg this]
    | hr =>
      simp only [cellsOf, hg]
      apply List.map_congr_left
      intro i hi
      split
      · rename_i e; subst e; simp [histV]
      · rfl
    | _ => rfl
  · intro i
    simp only [hg]
    split
    · rename_i e; subst e; simp
    · rfl

end Go.Proofs.YtchnhjffpldpiaaDoor

/- A hangar while it is made: the parts up to k. No walk. -/
namespace Go.Proofs.YtchnhjffpldpiaaDoor
open Go.RowKit

def okP (k : Nat) : Slot → Prop
  | .h | .ib | .fb | .hr => True
  | .pr => 0 < k
  | .part i | .since i | .chk i => i < k
  | .hist _ => False

def cellsP (L : HL) (r : RegR) (k : Nat) : Slot → List Value
  | .h => [.slice L.ka r.kinds.length L.kc, .slice L.pa r.parts.length L.pc, .int .i64 r.machines, .slice L.oa r.orders.length L.oc,
      partsV L k, .slice (some ⟨L.ib, 0, none⟩) r.orders.length r.orders.length, .slice (some ⟨L.fb, 0, none⟩) r.machines.toNat r.machines.toNat,
      .int .i64 0, .slice (some ⟨L.hr, 0, none⟩) r.parts.length r.parts.length]
  | .pr => (List.range k).map (fun i => Value.pointer (some ⟨L.pb i, 0, none⟩)) ++ L.pspare
  | .ib => List.replicate r.orders.length (.bool false)
  | .fb => List.replicate (r.machines.toNat * 2) (.int .i64 0)
  | .hr => List.replicate r.parts.length (.slice none 0 0)
  | .part i => partCells L (PS.of r.orders.length r.parts[i]!) r.orders.length i
  | .since _ => List.replicate r.orders.length (.int .i64 0)
  | .chk _ => List.replicate r.orders.length (.bool false)
  | .hist _ => []

structure PartH (w : World) (B : Nat) (L : HL) (r : RegR) (k : Nat) : Prop where
  glb : Glb w B
  reg : RegRd w B L.ka L.pa L.oa r.kinds.length r.parts.length r.orders.length r
  blocks : ∀ s, okP k s → w.heap[L.blk s]? = some (.cells (cellsP L r k s).toArray (tyOf s) (0, 0)) ∧ B ≤ L.blk s
  inj : ∀ s t, okP k s → okP k t → L.blk s = L.blk t → s = t
  pcap : 0 < k → k ≤ L.pcap ∧ L.pcap ≤ maxLen ∧ L.pspare.length = L.pcap - k

variable {w w' : World} {B : Nat} {L : HL} {r : RegR} {k : Nat}

theorem PartH.lt (h : PartH w B L r k) (s : Slot) (hs : okP k s) : L.blk s < w.heap.size := (Array.getElem?_eq_some_iff.1 (h.blocks s hs).1).1
theorem PartH.base (h : PartH w B L r k) : B ≤ w.heap.size := Nat.le_of_lt (Nat.lt_of_le_of_lt (h.blocks .h trivial).2 (h.lt .h trivial))
theorem PartH.cell (h : PartH w B L r k) (s : Slot) (hs : okP k s) (i : Nat) : w.cell? ⟨L.blk s, i, none⟩ = (cellsP L r k s)[i]? := cell_blk (h.blocks s hs).1 i
theorem PartH.frozen (h : PartH w B L r k) (s : Slot) (hs : okP k s) (i : Nat) : w.frozen? ⟨L.blk s, i, none⟩ = false := frozen_blk (h.blocks s hs).1 i
theorem PartH.below (h : PartH w B L r k) (hb : Below w.heap.size w w') : PartH w' B L r k :=
  ⟨h.glb.below (hb.mono h.base), h.reg.below (hb.mono h.base), fun s hs => ⟨by rw [hb.block _ (h.lt s hs)]; exact (h.blocks s hs).1, (h.blocks s hs).2⟩, h.inj, h.pcap⟩

theorem flatMap_rep (n : Nat) : (List.replicate n ((0 : Int), (0 : Int))).flatMap encPair = List.replicate (n * 2) (.int .i64 0) := by
  induction n with
  | zero => rfl
  | succ n ih => rw [List.replicate_succ, List.flatMap_cons, ih, Nat.succ_mul, Nat.add_comm, ← List.replicate_append_replicate]; rfl

theorem map_get!' {α β : Type} [Inhabited α] [Inhabited β] (f : α → β) (l : List α) (i : Nat) (hi : i < l.length) : (l.map f)[i]! = f l[i]! := by
  rw [getElem!_pos (l.map f) i (by simpa using hi), getElem!_pos l i hi, List.getElem_map]

/-- All parts made: a new hangar. -/
theorem PartH.done (h : PartH w B L r r.parts.length) : IsH w B L (newHS r) := by
  have hn : (newHS r).parts.length = r.parts.length := by simp [newHS]
  have hh : ∀ i : Nat, (newHS r).hist[i]! = [] := by
    intro i
    simp only [newHS]
    by_cases hi : i < r.parts.length
    · rw [getElem!_pos _ i (by simpa using hi)]; simp
    · rw [getElem!_neg _ i (by simpa using hi)]; rfl
  have ok : ∀ s, okSlot (newHS r) s → okP r.parts.length s := by
    intro s hs
    cases s <;> simp only [okSlot, hn, hh] at hs <;> first | trivial | exact hs | exact absurd rfl hs.2
  have hp : ∀ i, i < r.parts.length → (newHS r).parts[i]! = PS.of r.orders.length r.parts[i]! := fun i hi => map_get!' _ _ _ hi
  refine ⟨h.glb, h.reg, fun s hs => ⟨?_, (h.blocks s (ok s hs)).2⟩, fun s t hs ht => h.inj s t (ok s hs) (ok t ht), fun i _ he => absurd (hh i) he, fun hp => by rw [hn] at hp ⊢; exact (h.pcap hp).1⟩
  rw [(h.blocks s (ok s hs)).1]
  congr 3
  have hs' := ok s hs
  cases s with
  | h => simp only [cellsP, cellsOf, hn]; simp [newHS]
  | pr => simp only [cellsP, cellsOf, hn]
  | ib => simp [cellsP, cellsOf, newHS]
  | fb => simp only [cellsP, cellsOf, newHS, flatMap_rep]
  | hr =>
    simp only [cellsP, cellsOf, hn, hh, histV, if_true]
    apply List.ext_getElem <;> simp
  | part i => simp only [cellsP, cellsOf, hp i hs']; rfl
  | since i => simp only [cellsP, cellsOf, hp i hs']; simp [PS.of]
  | chk i => simp only [cellsP, cellsOf, hp i hs']; simp [PS.of]
  | hist i => exact hs'.elim

theorem PartH.ownsParts (h : PartH w B L r k) : w.ownsRow B 112 1 (partsV L k) k ((List.range k).map (fun i => Value.pointer (some ⟨L.pb i, 0, none⟩))) := by
  refine ⟨by simp, ?_⟩
  unfold partsV
  by_cases he : k = 0
  · rw [if_pos he]; exact .inl ⟨rfl, he⟩
  · rw [if_neg he]
    obtain ⟨h1, h2, h3⟩ := h.pcap (by omega)
    have hb := h.blocks .pr (show 0 < k by omega)
    refine .inr ⟨L.pr, L.pcap, _, rfl, hb.2, hb.1, h1, h2, ?_, ?_⟩
    · simp only [cellsP, List.size_toArray, List.length_append, List.length_map, List.length_range, h3]
      omega
    · simp only [cellsP]
      rw [Nat.mul_one]
      exact List.take_left' (by simp)

/-- One more part. -/
theorem PartH.next (h : PartH w B L r k) {w3 w4 : World} (s0 c0 p0 : Nat) (cap g : Nat) (hb : Below w.heap.size w w3)
    (ls : w.heap.size ≤ s0) (lc : w.heap.size ≤ c0) (lp : w.heap.size ≤ p0) (n1 : s0 ≠ c0) (n2 : s0 ≠ p0) (n3 : c0 ≠ p0)
    (hs : w3.heap[s0]? = some (.cells (List.replicate r.orders.length (.int .i64 0)).toArray 3 (0, 0)))
    (hc : w3.heap[c0]? = some (.cells (List.replicate r.orders.length (.bool false)).toArray 4 (0, 0)))
    (hp : w3.heap[p0]? = some (.cells #[.int .i64 (r.parts[k]!).kind, .int .i64 (r.parts[k]!).hours, .int .i64 (r.parts[k]!).cycles, .bool (r.parts[k]!).known, .int .i64 (-1), .int .i64 (-1), .slice (some ⟨s0, 0, none⟩) r.orders.length r.orders.length, .slice (some ⟨c0, 0, none⟩) r.orders.length r.orders.length] 116 (0, 0)))
    (O : w4.ownsRow B 112 1 (.slice (some ⟨g, 0, none⟩) (k + 1) cap) (k + 1) ((List.range k).map (fun i => Value.pointer (some ⟨L.pb i, 0, none⟩)) ++ [.pointer (some ⟨p0, 0, none⟩)])) (G : w3.grownBy w4 (partsV L k).ownBlock)
    (A : (partsV L k).ownBlock = some g ∨ g = w3.heap.size) :
    ∃ L', L'.hb = L.hb ∧ L'.ka = L.ka ∧ L'.pa = L.pa ∧ L'.oa = L.oa ∧ L'.kc = L.kc ∧ L'.pc = L.pc ∧ L'.oc = L.oc ∧ PartH (w4.setCell ⟨L.hb, 4, none⟩ (.slice (some ⟨g, 0, none⟩) (k + 1) cap)) B L' r (k + 1) := by
  rcases O.2 with ⟨_, hz⟩ | ⟨g', cap', cur, hv, hBg, hg, hcap, hcm, hcs, ht⟩
  · omega
  cases hv
  have hsz := hb.size
  have hgz := G.size
  have hB : B ≤ w.heap.size := h.base
  have hown : ∀ b, (partsV L k).ownBlock = some b → b = L.pr ∧ 0 < k := by
    intro b hb'
    unfold partsV at hb'
    split at hb'
    · simp [Value.ownBlock] at hb'
    · simp [Value.ownBlock] at hb'
      exact ⟨hb'.symm, by omega⟩
  have ownlt : ∀ b, (partsV L k).ownBlock = some b → b < w.heap.size := by
    intro b hb'
    obtain ⟨e, hk⟩ := hown b hb'
    rw [e]; exact h.lt .pr hk
  have hgA : (0 < k ∧ g = L.pr) ∨ g = w3.heap.size := by
    rcases A with A | A
    · obtain ⟨e, hk⟩ := hown g A; exact .inl ⟨hk, e⟩
    · exact .inr A
  have hblk : ∀ s, okP k s → s ≠ .pr → w4.heap[L.blk s]? = w.heap[L.blk s]? := by
    intro s hs hne
    have hlt := h.lt s hs
    rw [G.block _ (by omega) ?_, hb.block _ hlt]
    intro e
    obtain ⟨e1, e2⟩ := hown _ e.symm
    exact hne (h.inj s .pr hs e2 e1)
  have hgne : ∀ s, okP k s → s ≠ .pr → L.blk s ≠ g := by
    intro s hs hne e
    have hlt := h.lt s hs
    rcases hgA with ⟨e2, e3⟩ | e3
    · exact hne (h.inj s .pr hs e2 (e.trans e3))
    · omega
  have hnew : ∀ x, w.heap.size ≤ x → x < w3.heap.size → w4.heap[x]? = w3.heap[x]? := by
    intro x h1 h2
    refine G.block x h2 ?_
    intro e
    have := ownlt x e.symm
    omega
  have hs3 : s0 < w3.heap.size := (Array.getElem?_eq_some_iff.1 hs).1
  have hc3 : c0 < w3.heap.size := (Array.getElem?_eq_some_iff.1 hc).1
  have hp3 : p0 < w3.heap.size := (Array.getElem?_eq_some_iff.1 hp).1
  have hgr : g < w.heap.size ∨ g = w3.heap.size := by
    rcases hgA with ⟨e2, e3⟩ | e3
    · have := h.lt .pr e2
      simp only [HL.blk] at this
      exact .inl (by omega)
    · exact .inr e3
  have gs : g ≠ s0 := by omega
  have gc : g ≠ c0 := by omega
  have gp : g ≠ p0 := by omega
  have hlb := h.lt .h trivial
  simp only [HL.blk] at hlb
  have hhg : L.hb ≠ g := hgne .h trivial (by simp)
  have hBW : Below B w (w4.setCell ⟨L.hb, 4, none⟩ (.slice (some ⟨g, 0, none⟩) (k + 1) cap)) := by
    have b1 : Below B w w4 := ((hb.mono hB).grown G (by omega) fun b e => by
      obtain ⟨e1, e2⟩ := hown b e
      have := (h.blocks .pr e2).2
      simp only [HL.blk] at this
      omega)
    exact b1.setCell (p := ⟨L.hb, 4, none⟩) (h.blocks .h trivial).2 _
  obtain ⟨L', hL'⟩ : ∃ L' : HL, L' = { L with pr := g, pcap := cap, pspare := cur.toList.drop (k + 1), pb := fun i => if i = k then p0 else L.pb i, sb := fun i => if i = k then s0 else L.sb i, cb := fun i => if i = k then c0 else L.cb i } := ⟨_, rfl⟩
  have e1 : L'.hb = L.hb := by rw [hL']
  have epr : L'.pr = g := by rw [hL']
  have epb : ∀ i, L'.pb i = if i = k then p0 else L.pb i := by intro i; rw [hL']
  have esb : ∀ i, L'.sb i = if i = k then s0 else L.sb i := by intro i; rw [hL']
  have ecb : ∀ i, L'.cb i = if i = k then c0 else L.cb i := by intro i; rw [hL']
  have cls : ∀ s, okP (k + 1) s → s = .pr ∨ s = .part k ∨ s = .since k ∨ s = .chk k ∨ (okP k s ∧ s ≠ .pr ∧ L'.blk s = L.blk s) := by
    intro s hs
    cases s with
    | pr => exact .inl rfl
    | part i =>
      by_cases e : i = k
      · subst e; exact .inr (.inl rfl)
      · exact .inr (.inr (.inr (.inr ⟨by simp only [okP] at hs ⊢; omega, by simp, by simp only [HL.blk, epb, if_neg e]⟩)))
    | since i =>
      by_cases e : i = k
      · subst e; exact .inr (.inr (.inl rfl))
      · exact .inr (.inr (.inr (.inr ⟨by simp only [okP] at hs ⊢; omega, by simp, by simp only [HL.blk, esb, if_neg e]⟩)))
    | chk i =>
      by_cases e : i = k
      · subst e; exact .inr (.inr (.inr (.inl rfl)))
      · exact .inr (.inr (.inr (.inr ⟨by simp only [okP] at hs ⊢; omega, by simp, by simp only [HL.blk, ecb, if_neg e]⟩)))
    | hist i => exact hs.elim
    | _ => exact .inr (.inr (.inr (.inr ⟨trivial, by simp, by rw [hL']; rfl⟩)))
  refine ⟨L', e1, by rw [hL'], by rw [hL'], by rw [hL'], by rw [hL'], by rw [hL'], by rw [hL'], h.glb.below hBW, by rw [hL']; exact h.reg.below hBW, ?_, ?_, ?_⟩
  · intro s hsl
    rcases cls s hsl with rfl | rfl | rfl | rfl | ⟨h1, h2, h3⟩
    · show (_ : World).heap[L'.pr]? = _ ∧ B ≤ L'.pr
      rw [epr]
      refine ⟨?_, hBg⟩
      rw [Below.heap_setCell _ _ _ _ (fun e => hhg e.symm), hg]
      congr 3
      have h5 : cellsP L' r (k + 1) .pr = ((List.range k).map (fun i => Value.pointer (some ⟨L.pb i, 0, none⟩)) ++ [.pointer (some ⟨p0, 0, none⟩)]) ++ cur.toList.drop (k + 1) := by
        show (List.range (k + 1)).map (fun i => Value.pointer (some ⟨L'.pb i, 0, none⟩)) ++ L'.pspare = _
        rw [List.range_succ, List.map_append]
        congr 1
        · congr 1
          · refine List.map_congr_left fun i hi => ?_
            rw [epb, if_neg (by have := List.mem_range.1 hi; omega)]
          · simp [epb]
        · rw [hL']
      rw [h5, ← ht, Nat.mul_one, List.take_append_drop]
    · show (_ : World).heap[L'.pb k]? = _ ∧ B ≤ L'.pb k
      rw [epb, if_pos rfl]
      refine ⟨?_, by omega⟩
      rw [Below.heap_setCell _ _ _ _ (by simp only; omega), hnew _ lp hp3, hp]
      congr 2
      show _ = (partCells L' _ _ k).toArray
      unfold partCells PS.of
      rw [esb, ecb, if_pos rfl, if_pos rfl]
    · show (_ : World).heap[L'.sb k]? = _ ∧ B ≤ L'.sb k
      rw [esb, if_pos rfl]
      refine ⟨?_, by omega⟩
      rw [Below.heap_setCell _ _ _ _ (by simp only; omega), hnew _ ls hs3, hs]
      rfl
    · show (_ : World).heap[L'.cb k]? = _ ∧ B ≤ L'.cb k
      rw [ecb, if_pos rfl]
      refine ⟨?_, by omega⟩
      rw [Below.heap_setCell _ _ _ _ (by simp only; omega), hnew _ lc hc3, hc]
      rfl
    · rw [h3]
      refine ⟨?_, (h.blocks s h1).2⟩
      by_cases e2 : s = .h
      · subst e2
        have := heap_setCell_at (w := w4) (b := L.hb) (c := cellsP L r k .h) (T := tyOf .h) (f := (0, 0)) (by rw [show L.hb = L.blk .h from rfl, hblk .h trivial (by simp)]; exact (h.blocks .h trivial).1) 4 (.slice (some ⟨g, 0, none⟩) (k + 1) cap)
        rw [show L.blk .h = L.hb from rfl, this]
        congr 2
        rw [hL']
        simp [cellsP, partsV]
      · rw [Below.heap_setCell _ _ _ _ (fun e3 => e2 (h.inj s .h h1 trivial e3)), hblk s h1 h2, (h.blocks s h1).1]
        congr 3
        cases s with
        | h => exact absurd rfl e2
        | pr => exact absurd rfl h2
        | part i =>
          have hik : i ≠ k := by simp only [okP] at h1; omega
          simp only [cellsP, partCells, esb, ecb, if_neg hik]
        | hist i => exact h1.elim
        | _ => rfl
  · have kR : L'.blk .pr = g := epr
    have kP : L'.blk (.part k) = p0 := by show L'.pb k = p0; rw [epb, if_pos rfl]
    have kS : L'.blk (.since k) = s0 := by show L'.sb k = s0; rw [esb, if_pos rfl]
    have kC : L'.blk (.chk k) = c0 := by show L'.cb k = c0; rw [ecb, if_pos rfl]
    intro s t hs1 ht1 hst
    rcases cls s hs1 with rfl | rfl | rfl | rfl | ⟨h1, h2, h3⟩ <;> rcases cls t ht1 with rfl | rfl | rfl | rfl | ⟨h4, h5, h6⟩ <;> first
      | rfl
      | (exfalso; simp only [kR, kP, kS, kC] at hst; omega)
      | (exfalso; rw [h6] at hst; have := h.lt t h4; have := hgne t h4 h5; simp only [kR, kP, kS, kC] at hst; omega)
      | (exfalso; rw [h3] at hst; have := h.lt s h1; have := hgne s h1 h2; simp only [kR, kP, kS, kC] at hst; omega)
      | exact h.inj s t h1 h4 (by rw [h3, h6] at hst; exact hst)
  · intro _
    rw [hL']
    simp only
    refine ⟨by omega, hcm, ?_⟩
    rw [List.length_drop, Array.length_toList, hcs]
    omega

/-- No part yet. -/
theorem PartH.start {w W : World} {ka pa oa : Option Addr} {nk np no : Nat} (hG0 : Glb w w.heap.size) (hR0 : RegRd w w.heap.size ka pa oa nk np no r) (ek : r.kinds.length = nk) (ep : r.parts.length = np) (eo : r.orders.length = no)
    (hb : Below w.heap.size w W) (kc pc oc nm : Nat) (hm : r.machines = nm)
    (ib fb hr hbk : Nat) (l1 : w.heap.size + 1 ≤ ib) (l2 : w.heap.size + 1 ≤ fb) (l3 : w.heap.size + 1 ≤ hr) (l4 : w.heap.size + 1 ≤ hbk) (n1 : ib ≠ fb) (n2 : ib ≠ hr) (n3 : ib ≠ hbk) (n4 : fb ≠ hr) (n5 : fb ≠ hbk) (n6 : hr ≠ hbk)
    (h0 : W.heap[w.heap.size]? = some (.cells #[.slice ka nk kc, .slice pa np pc, .int .i64 (nm : Int), .slice oa no oc] 38 (0, 0)))
    (h1 : W.heap[ib]? = some (.cells (Array.replicate no (.bool false)) 4 (0, 0)))
    (h2 : W.heap[fb]? = some (.cells (Array.replicate (nm * 2) (.int .i64 0)) 113 (0, 0)))
    (h3 : W.heap[hr]? = some (.cells (Array.replicate np (.slice none 0 0)) 57 (0, 0)))
    (h4 : W.heap[hbk]? = some (.cells #[.slice ka nk kc, .slice pa np pc, .int .i64 (nm : Int), .slice oa no oc, .slice none 0 0, .slice (some ⟨ib, 0, none⟩) no no, .slice (some ⟨fb, 0, none⟩) nm nm, .int .i64 0, .slice (some ⟨hr, 0, none⟩) np np] 132 (0, 0))) :
    ∃ L : HL, Value.pointer (some ⟨hbk, 0, none⟩) = .pointer (some ⟨L.hb, 0, none⟩) ∧ L.ka = ka ∧ L.pa = pa ∧ L.oa = oa ∧ W.cell? ⟨w.heap.size, 1, none⟩ = some (.slice pa np pc) ∧ W.cell? ⟨w.heap.size, 3, none⟩ = some (.slice oa no oc) ∧
      Below w.heap.size w W ∧ PartH W (w.heap.size + 1) L r 0 := by
  subst ek ep eo
  have hG := (hG0.below hb).up (Nat.le_succ _)
  have hR := (hR0.below hb).up (Nat.le_succ _)
  have hmn : r.machines.toNat = nm := by omega
  refine ⟨⟨ka, kc, pa, pc, oa, oc, hbk, 0, 0, [], ib, fb, hr, fun _ => 0, fun _ => 0, fun _ => 0, fun _ => 0, fun _ => 0, fun _ => []⟩, rfl, rfl, rfl, rfl, by simp [World.cell?, h0], by simp [World.cell?, h0], hb, hG, hR, ?_, ?_, fun h => by omega⟩
  · intro s hs
    cases s with
    | h => refine ⟨h4.trans ?_, l4⟩; simp only [cellsP, tyOf, hm, Int.toNat_natCast, partsV, if_true]
    | ib => refine ⟨h1.trans ?_, l1⟩; simp only [cellsP, tyOf, List.toArray_replicate]
    | fb => refine ⟨h2.trans ?_, l2⟩; simp only [cellsP, tyOf, hmn, List.toArray_replicate]
    | hr => refine ⟨h3.trans ?_, l3⟩; simp only [cellsP, tyOf, List.toArray_replicate]
    | pr => simp [okP] at hs
    | part i => simp [okP] at hs
    | since i => simp [okP] at hs
    | chk i => simp [okP] at hs
    | hist i => exact hs.elim
  · intro s t hs ht e
    cases s <;> cases t <;> simp only [okP, HL.blk, Nat.not_lt_zero, Nat.lt_irrefl] at hs ht e ⊢ <;> omega
end Go.Proofs.YtchnhjffpldpiaaDoor

/- The hangar's small methods, walked: machine, part, order, at. -/
namespace Go.Proofs.YtchnhjffpldpiaaDoor
open Go.RowKit
attribute [local go_sem] eqi_spot eqi_pair gd_spot gd_pair

variable {w : World} {B : Nat} {L : HL} {H : HS}

theorem IsH.h0 (h : IsH w B L H) : w.cell? ⟨L.hb, 0, none⟩ = some (.slice L.ka H.reg.kinds.length L.kc) := (h.cell .h trivial 0).trans rfl
theorem IsH.h2 (h : IsH w B L H) : w.cell? ⟨L.hb, 2, none⟩ = some (.int .i64 H.reg.machines) := (h.cell .h trivial 2).trans rfl
theorem IsH.h3 (h : IsH w B L H) : w.cell? ⟨L.hb, 3, none⟩ = some (.slice L.oa H.reg.orders.length L.oc) := (h.cell .h trivial 3).trans rfl
theorem IsH.h4 (h : IsH w B L H) : w.cell? ⟨L.hb, 4, none⟩ = some (partsV L H.parts.length) := (h.cell .h trivial 4).trans rfl
theorem IsH.h5 (h : IsH w B L H) : w.cell? ⟨L.hb, 5, none⟩ = some (.slice (some ⟨L.ib, 0, none⟩) H.reg.orders.length H.reg.orders.length) := (h.cell .h trivial 5).trans rfl
theorem IsH.h6 (h : IsH w B L H) : w.cell? ⟨L.hb, 6, none⟩ = some (.slice (some ⟨L.fb, 0, none⟩) H.flown.length H.flown.length) := (h.cell .h trivial 6).trans rfl
theorem IsH.h7 (h : IsH w B L H) : w.cell? ⟨L.hb, 7, none⟩ = some (.int .i64 H.works) := (h.cell .h trivial 7).trans rfl
theorem IsH.h8 (h : IsH w B L H) : w.cell? ⟨L.hb, 8, none⟩ = some (.slice (some ⟨L.hr, 0, none⟩) H.parts.length H.parts.length) := (h.cell .h trivial 8).trans rfl

/-- The slice of the parts, its address aside. -/
theorem partsV_eq (L : HL) (np : Nat) : ∃ a c, partsV L np = .slice a np c ∧ (0 < np → a = some ⟨L.pr, 0, none⟩) := by
  unfold partsV
  split
  · rename_i h; subst h; exact ⟨none, 0, rfl, fun h => absurd h (by omega)⟩
  · exact ⟨_, _, rfl, fun _ => rfl⟩

/-- Bounds that a valid register gives. -/
structure RegR.Small (r : RegR) : Prop where
  nk : r.kinds.length ≤ 6
  np : r.parts.length ≤ 24
  no : r.orders.length ≤ 6
  m0 : 0 ≤ r.machines
  m1 : r.machines ≤ 4
  kinds : ∀ i, i < r.kinds.length → 1 ≤ (r.kinds[i]!).hours ∧ (r.kinds[i]!).hours ≤ 100000 ∧ 1 ≤ (r.kinds[i]!).cycles ∧ (r.kinds[i]!).cycles ≤ 100000 ∧ 0 ≤ (r.kinds[i]!).places ∧ (r.kinds[i]!).places ≤ 4
  parts : ∀ i, i < r.parts.length → 0 ≤ (r.parts[i]!).kind ∧ (r.parts[i]!).kind < r.kinds.length ∧ 0 ≤ (r.parts[i]!).hours ∧ (r.parts[i]!).hours ≤ 100000 ∧ 0 ≤ (r.parts[i]!).cycles ∧ (r.parts[i]!).cycles ≤ 100000
  orders : ∀ i, i < r.orders.length → 0 ≤ (r.orders[i]!).kind ∧ (r.orders[i]!).kind < r.kinds.length ∧ 0 ≤ (r.orders[i]!).within ∧ (r.orders[i]!).within ≤ 100000

theorem small_of_valid {r : RegR} (h : validReg r = true) : r.Small := by
  unfold validReg at h
  simp only [Bool.and_eq_true, Bool.not_eq_true', Bool.or_eq_false_iff, decide_eq_false_iff_not, List.any_eq_false] at h
  obtain ⟨⟨⟨⟨h1, h2⟩, h3⟩, h4⟩, ⟨h5, h6⟩, h7⟩ := h
  simp only [Bool.not_eq_false', inB_iff] at h4
  refine ⟨by omega, by omega, by omega, h4.1, h4.2, fun i hi => ?_, fun i hi => ?_, fun i hi => ?_⟩
  · have := h5 _ (List.getElem_mem hi)
    rw [getElem!_pos _ i hi]
    simp [badKind, inB] at this
    omega
  · have := h6 _ (List.getElem_mem hi)
    rw [getElem!_pos _ i hi]
    simp [badPart, inB] at this
    omega
  · have := h7 _ (List.getElem_mem hi)
    rw [getElem!_pos _ i hi]
    simp [badOrder, inB] at this
    omega

set_option maxHeartbeats 400000 in
theorem machine_any (h : IsH w B L H) (hf : H.Fit) (n : Int) :
    Calls Tryd.prog 65 #[.pointer (some ⟨L.hb, 0, none⟩), .int .i64 n] w fun e w' => e = .returned (.bool (H.machine n)) ∧ w = w' := by
  have hs := small_of_valid hf.valid
  have hm0 := hs.m0
  have hm1 := hs.m1
  have c2 := h.h2
  have HH := Lib.hid h
  clear h hs hf
  go_enter Tryd.func65, Tryd.ntmps65
  go_wp2_with (first | (go_at_call 66; refine (within_any _ _ _ _).mono ?_; rintro e w' ⟨rfl, rfl⟩))
  go_ret
  exact ⟨rfl, rfl⟩

set_option maxHeartbeats 400000 in
theorem order_any (h : IsH w B L H) (hf : H.Fit) (n : Int) :
    Calls Tryd.prog 84 #[.pointer (some ⟨L.hb, 0, none⟩), .int .i64 n] w fun e w' => e = .returned (.bool (H.order n)) ∧ w = w' := by
  have hs := small_of_valid hf.valid
  have hm0 := hs.no
  have c3 := h.h3
  have HH := Lib.hid h
  clear h hs hf
  go_enter Tryd.func84, Tryd.ntmps84
  go_wp2_with (first | (go_at_call 66; refine (within_any _ _ _ _).mono ?_; rintro e w' ⟨rfl, rfl⟩))
  go_ret
  exact ⟨rfl, rfl⟩

set_option maxHeartbeats 400000 in
theorem part_any (h : IsH w B L H) (hf : H.Fit) (n : Int) :
    Calls Tryd.prog 75 #[.pointer (some ⟨L.hb, 0, none⟩), .int .i64 n] w fun e w' => e = .returned (.bool (H.part n)) ∧ w = w' := by
  have hs := small_of_valid hf.valid
  have hm0 : H.parts.length ≤ 24 := by rw [hf.parts]; exact hs.np
  obtain ⟨a, c, hv, ha⟩ := partsV_eq L H.parts.length
  have c4 := h.h4
  rw [hv] at c4
  clear h hs hf hv ha
  go_enter Tryd.func75, Tryd.ntmps75
  go_wp2_with (first | (go_at_call 66; refine (within_any _ _ _ _).mono ?_; rintro e w' ⟨rfl, rfl⟩))
  go_ret
  exact ⟨rfl, rfl⟩

set_option maxHeartbeats 400000 in
theorem atlit_any (pb kb ib : Nat) (pk k pm pl m l : Int) (w : World)
   (h0 : w.cell? ⟨pb, 0, none⟩ = some (.int .i64 pk))
   (h4 : w.cell? ⟨pb, 4, none⟩ = some (.int .i64 pm))
   (h5 : w.cell? ⟨pb, 5, none⟩ = some (.int .i64 pl))
   (hk : w.cell? ⟨kb, 0, none⟩ = some (.int .i64 k))
   (hi0 : w.cell? ⟨ib, 0, none⟩ = some (.int .i64 m))
   (hi1 : w.cell? ⟨ib, 1, none⟩ = some (.int .i64 l))
    :
    Calls Tryd.prog 129 #[.pointer (some ⟨pb, 0, none⟩), .pointer (some ⟨kb, 0, none⟩), .pointer (some ⟨ib, 0, none⟩)] w fun e w' =>
      e = .returned (.bool (pk == k && (pm == m && pl == l))) ∧ Below w.heap.size w w' := by
  go_enter Tryd.func129, Tryd.ntmps129
  go_wp2
  by_cases hg : pk = k
  · subst hg
    go_quiet (fail)
    go_wp2
    go_ret
    exact ⟨ret_bool (by simp), below_drewN (Below.refl _ _) _⟩
  · have hd : decide (pk = k) = false := by simpa using hg
    have hb : (pk == k) = false := by simpa using hg
    go_quiet (fail)
    go_wp2
    go_ret
    exact ⟨ret_bool (by simp [hb]), below_drewN (Below.refl _ _) _⟩

theorem IsH.p_cell (h : IsH w B L H) {i : Nat} (hi : i < H.parts.length) (j : Nat) : w.cell? ⟨L.pb i, j, none⟩ = (partCells L H.parts[i]! H.reg.orders.length i)[j]? := h.cell (.part i) hi j

/-- The parts' blocks beside the parts. -/
def HL.zip (L : HL) (H : HS) : List (Nat × PS) := (List.range H.parts.length).map fun i => (L.pb i, H.parts[i]!)
theorem HL.zip_len (L : HL) (H : HS) : (L.zip H).length = H.parts.length := by simp [HL.zip]
theorem HL.zip_get (L : HL) (H : HS) (j : Nat) (hj : j < H.parts.length) : (L.zip H)[j]! = (L.pb j, H.parts[j]!) := by
  rw [getElem!_pos _ j (by simpa [HL.zip] using hj)]
  simp [HL.zip]
theorem HL.zip_snd (L : HL) (H : HS) : (L.zip H).map Prod.snd = H.parts := by
  simp only [HL.zip, List.map_map]
  apply List.ext_getElem
  · simp
  · intro i h1 h2
    simp [List.getElem?_eq_getElem h2]

theorem IsH.rdParts (h : IsH w B L H) (hf : H.Fit) (a : Option Addr) (ha : 0 < H.parts.length → a = some ⟨L.pr, 0, none⟩) : Rd encPtr 1 w w.heap.size a H.parts.length (L.zip H) := by
  have hs := small_of_valid hf.valid
  refine ⟨(L.zip_len H).symm, by have := hs.np; have := hf.parts; omega, L.pr, 0, fun hn => ⟨ha hn, h.lt .pr hn⟩, fun j hj i u hu => ?_⟩
  rw [L.zip_get H j hj] at hu
  cases i with
  | zero =>
    simp only [encPtr, List.getElem?_cons_zero, Option.some.injEq] at hu
    subst hu
    rw [show 0 + j * 1 + 0 = j by omega, show L.pr = L.blk .pr from rfl, h.cell .pr (by show 0 < _; omega) j]
    simp [cellsOf, List.getElem?_append_left, hj]
  | succ i => simp [encPtr] at hu

set_option maxHeartbeats 400000 in
theorem at_any (h : IsH w B L H) (hf : H.Fit) (kind m pl : Int) :
    Calls Tryd.prog 104 #[.pointer (some ⟨L.hb, 0, none⟩), .int .i64 kind, .agg #[.int .i64 m, .int .i64 pl]] w fun e w' => e = .returned (.int .i64 (H.at kind m pl)) ∧ Below w.heap.size w w' := by
  obtain ⟨a, c, hv, ha⟩ := partsV_eq L H.parts.length
  have c4 := h.h4
  rw [hv] at c4
  have hlt : L.hb < w.heap.size := h.lt .h trivial
  have HH := Lib.hid h
  have HF := Lib.hid hf
  have HA := Lib.hid ha
  clear h hf hv ha
  have eg := enters_of (P := Tryd.prog) Tryd.func129 (by kernel_rfl) rfl
  go_enter Tryd.func104, Tryd.ntmps104
  go_wp2_with fail
  refine Calls_named fun W hW => ?_
  have hb : Below w.heap.size w W := by rw [hW]; exact ((Below.refl _ _).alloc (Nat.le_refl _) _).alloc (by simp) _
  have hk : W.cell? ⟨w.heap.size, 0, none⟩ = some (.int .i64 kind) := by rw [hW]; simp [World.cell?_alloc_old]
  have hi0 : W.cell? ⟨w.heap.size + 1, 0, none⟩ = some (.int .i64 m) := by rw [hW, cell_new1]; rfl
  have hi1 : W.cell? ⟨w.heap.size + 1, 1, none⟩ = some (.int .i64 pl) := by rw [hW, cell_new1]; rfl
  have hsz : W.heap.size = w.heap.size + 2 := by rw [hW]; simp
  clear hW
  have h2 := HH.out.below hb
  refine (index_part (L.zip H) (fun x => isAt kind m pl x.2) _ _ eg a H.parts.length c W W.heap.size (Nat.le_refl _) (h2.rdParts HF.out a HA.out) (fun j hj W' hW' => ?_)).mono ?_
  · rw [L.zip_len] at hj
    rw [L.zip_get H j hj]
    have h3 := h2.below hW'
    refine (atlit_any (L.pb j) w.heap.size (w.heap.size + 1) _ kind _ _ m pl W' ((h3.p_cell hj 0).trans rfl) ((h3.p_cell hj 4).trans rfl) ((h3.p_cell hj 5).trans rfl) ?_ ?_ ?_).mono ?_
    · rw [hW'.cell (by simp; omega)]; exact hk
    · rw [hW'.cell (by simp; omega)]; exact hi0
    · rw [hW'.cell (by simp; omega)]; exact hi1
    · rintro e w' ⟨rfl, hb'⟩
      exact ⟨rfl, hb'⟩
  · rintro e w' ⟨rfl, hb'⟩
    go_wp2
    go_ret
    refine ⟨?_, hb.trans (hb'.mono (by omega))⟩
    rw [idxFrom_map Prod.snd (isAt kind m pl), L.zip_snd]
    rfl

end Go.Proofs.YtchnhjffpldpiaaDoor

/- hangar.left, walked. -/
namespace Go.Proofs.YtchnhjffpldpiaaDoor
open Go.RowKit
attribute [local go_sem] eqi_spot eqi_pair gd_spot gd_pair
attribute [local go_sem ↓] Go.wp_at_zero Go.wp_at_succ

variable {w : World} {B : Nat} {L : HL} {H : HS}

theorem leftGo_drop (kind : Int) (os : List OrderR) (bs cs : List Bool) (ss : List Int) (k : Nat) (h : Int) (ho : k < os.length) (hb : bs.length = os.length) (hc : cs.length = os.length) (hs : ss.length = os.length) :
    leftGo kind (os.drop k) (bs.drop k) (cs.drop k) (ss.drop k) h =
      leftGo kind (os.drop (k + 1)) (bs.drop (k + 1)) (cs.drop (k + 1)) (ss.drop (k + 1)) (if bs[k]! && (os[k]!.kind == kind && !cs[k]!) then min h (os[k]!.within - ss[k]!) else h) := by
  rw [List.drop_eq_getElem_cons ho, List.drop_eq_getElem_cons (l := bs) (by omega), List.drop_eq_getElem_cons (l := cs) (by omega), List.drop_eq_getElem_cons (l := ss) (by omega),
    getElem!_pos os k ho, getElem!_pos bs k (by omega), getElem!_pos cs k (by omega), getElem!_pos ss k (by omega)]
  rfl
theorem leftGo_end (kind : Int) (os : List OrderR) (bs cs : List Bool) (ss : List Int) (k : Nat) (h : Int) (ho : os.length ≤ k) :
    leftGo kind (os.drop k) (bs.drop k) (cs.drop k) (ss.drop k) h = h := by
  rw [List.drop_eq_nil_of_le ho]; rfl

theorem map_get? {α : Type} [Inhabited α] (f : α → Value) (l : List α) (k : Nat) (h : k < l.length) : (l.map f)[k]? = some (f l[k]!) := by
  rw [List.getElem?_map, List.getElem?_eq_getElem h, getElem!_pos l k h]; rfl

theorem IsH.issued (h : IsH w B L H) (hf : H.Fit) (k : Nat) (hk : k < H.reg.orders.length) : w.cell? ⟨L.ib, k, none⟩ = some (.bool H.issued[k]!) :=
  (h.cell .ib trivial k).trans (map_get? _ _ _ (by rw [hf.issued]; exact hk))
theorem IsH.chk (h : IsH w B L H) (hf : H.Fit) (i : Nat) (hi : i < H.parts.length) (k : Nat) (hk : k < H.reg.orders.length) : w.cell? ⟨L.cb i, k, none⟩ = some (.bool (H.parts[i]!).chk[k]!) :=
  (h.cell (.chk i) hi k).trans (map_get? _ _ _ (by rw [hf.chk i hi]; exact hk))
theorem IsH.since (h : IsH w B L H) (hf : H.Fit) (i : Nat) (hi : i < H.parts.length) (k : Nat) (hk : k < H.reg.orders.length) : w.cell? ⟨L.sb i, k, none⟩ = some (.int .i64 (H.parts[i]!).since[k]!) :=
  (h.cell (.since i) hi k).trans (map_get? _ _ _ (by rw [hf.since i hi]; exact hk))

section
variable {i : Nat}
theorem IsH.p0 (h : IsH w B L H) (hi : i < H.parts.length) : w.cell? ⟨L.pb i, 0, none⟩ = some (.int .i64 (H.parts[i]!).kind) := (h.p_cell hi 0).trans rfl
theorem IsH.p1 (h : IsH w B L H) (hi : i < H.parts.length) : w.cell? ⟨L.pb i, 1, none⟩ = some (.int .i64 (H.parts[i]!).hours) := (h.p_cell hi 1).trans rfl
theorem IsH.p2 (h : IsH w B L H) (hi : i < H.parts.length) : w.cell? ⟨L.pb i, 2, none⟩ = some (.int .i64 (H.parts[i]!).cycles) := (h.p_cell hi 2).trans rfl
theorem IsH.p3 (h : IsH w B L H) (hi : i < H.parts.length) : w.cell? ⟨L.pb i, 3, none⟩ = some (.bool (H.parts[i]!).known) := (h.p_cell hi 3).trans rfl
theorem IsH.p4 (h : IsH w B L H) (hi : i < H.parts.length) : w.cell? ⟨L.pb i, 4, none⟩ = some (.int .i64 (H.parts[i]!).im) := (h.p_cell hi 4).trans rfl
theorem IsH.p5 (h : IsH w B L H) (hi : i < H.parts.length) : w.cell? ⟨L.pb i, 5, none⟩ = some (.int .i64 (H.parts[i]!).ip) := (h.p_cell hi 5).trans rfl
theorem IsH.p6 (h : IsH w B L H) (hi : i < H.parts.length) : w.cell? ⟨L.pb i, 6, none⟩ = some (.slice (some ⟨L.sb i, 0, none⟩) H.reg.orders.length H.reg.orders.length) := (h.p_cell hi 6).trans rfl
theorem IsH.p7 (h : IsH w B L H) (hi : i < H.parts.length) : w.cell? ⟨L.pb i, 7, none⟩ = some (.slice (some ⟨L.cb i, 0, none⟩) H.reg.orders.length H.reg.orders.length) := (h.p_cell hi 7).trans rfl
end

set_option maxHeartbeats 2000000 in
theorem left_any (h : IsH w B L H) (hf : H.Fit) (i : Nat) (hi : i < H.parts.length) :
    Calls Tryd.prog 76 #[.pointer (some ⟨L.hb, 0, none⟩), .pointer (some ⟨L.pb i, 0, none⟩)] w fun e w' =>
      e = .returned (.tuple #[.int .i64 (H.left H.parts[i]!).1, .int .i64 (H.left H.parts[i]!).2]) ∧ Below w.heap.size w w' := by
  have hs := small_of_valid hf.valid
  have hno := hs.no
  have hkd := hf.kind0 i hi
  have hhr := hf.hours i hi
  have hcy := hf.cycles i hi
  have hw0 := hf.works0
  have hw1 := hf.works1
  have hnk := hs.nk
  obtain ⟨kn, hkn⟩ : ∃ kn : Nat, (H.parts[i]!).kind = kn := ⟨(H.parts[i]!).kind.toNat, by omega⟩
  have hknl : kn < H.reg.kinds.length := by omega
  have hK := hs.kinds kn hknl
  have c0 := h.h0
  have c3 := h.h3
  have c5 := h.h5
  have p0 := h.p0 hi
  have p1 := h.p1 hi
  have p2 := h.p2 hi
  have p6 := h.p6 hi
  have p7 := h.p7 hi
  obtain ⟨kb, koff, hka, hkc⟩ := h.reg.kinds.ex
  obtain ⟨hka, hkb⟩ := hka (by omega)
  have k0 := hkc kn hknl 0 _ rfl
  have k1 := hkc kn hknl 1 _ rfl
  have k2 := hkc kn hknl 2 _ rfl
  rw [Nat.add_zero] at k0
  have hBw := h.base
  have hlh : L.hb < w.heap.size := h.lt .h trivial
  have hlp : L.pb i < w.heap.size := h.lt (.part i) hi
  have neh : L.hb ≠ w.heap.size := by omega
  have nep : L.pb i ≠ w.heap.size := by omega
  have nek : kb ≠ w.heap.size := by omega
  have HI := fun W (hW : Below w.heap.size w W) k (hk : k < H.reg.orders.length) => (h.below hW).issued hf k hk
  have HC := fun W (hW : Below w.heap.size w W) k (hk : k < H.reg.orders.length) => (h.below hW).chk hf i hi k hk
  have HN := fun W (hW : Below w.heap.size w W) k (hk : k < H.reg.orders.length) => (h.below hW).since hf i hi k hk
  have HSB := fun k (hk : k < H.reg.orders.length) => hf.sinces i k hi hk
  have HOB := fun k (hk : k < H.reg.orders.length) => hs.orders k hk
  obtain ⟨ob, ooff, hoa, hoc⟩ := h.reg.orders.ex
  have L1 := hf.issued
  have L2 := hf.chk i hi
  have L3 := hf.since i hi
  have HLft : H.left H.parts[i]! = (leftGo (H.parts[i]!).kind H.reg.orders H.issued (H.parts[i]!).chk (H.parts[i]!).since ((H.reg.kinds[kn]!).hours - (H.parts[i]!).hours), (H.reg.kinds[kn]!).cycles - (H.parts[i]!).cycles) := by
    unfold HS.left; rw [hkn]; rfl
  rw [HLft]
  clear HLft
  rw [hka] at c0
  have hHb : ∀ W, Below w.heap.size w W → W.cell? ⟨L.hb, 5, none⟩ = some (.slice (some ⟨L.ib, 0, none⟩) H.reg.orders.length H.reg.orders.length) := fun W hW => (h.below hW).h5
  have hPb : ∀ W, Below w.heap.size w W → W.cell? ⟨L.pb i, 0, none⟩ = some (.int .i64 (H.parts[i]!).kind) ∧ W.cell? ⟨L.pb i, 6, none⟩ = some (.slice (some ⟨L.sb i, 0, none⟩) H.reg.orders.length H.reg.orders.length) ∧ W.cell? ⟨L.pb i, 7, none⟩ = some (.slice (some ⟨L.cb i, 0, none⟩) H.reg.orders.length H.reg.orders.length) := fun W hW => ⟨(h.below hW).p0 hi, (h.below hW).p6 hi, (h.below hW).p7 hi⟩
  have hlt4 : H.reg.orders.length = 0 ∨ (L.ib < w.heap.size ∧ L.sb i < w.heap.size ∧ L.cb i < w.heap.size) := .inr ⟨h.lt .ib trivial, h.lt (.since i) hi, h.lt (.chk i) hi⟩
  have HLT := Lib.hid hlt4
  clear hlt4
  clear h hf hs hkc hka hi
  generalize H.parts[i]! = p at *
  generalize H.reg.kinds[kn]! = K at *
  generalize hno' : H.reg.orders.length = no at *
  have HI' := Lib.hid HI
  have HC' := Lib.hid HC
  have HN' := Lib.hid HN
  have HSB' := Lib.hid HSB
  have HOB' := Lib.hid HOB
  have HOC := Lib.hid hoc
  have HOA := Lib.hid hoa
  have HB5 := Lib.hid hHb
  have HPB := Lib.hid hPb
  have L1' := Lib.hid L1
  have L2' := Lib.hid L2
  have L3' := Lib.hid L3
  have HNO := Lib.hid hno'
  clear HI HC HN HSB HOB hoc hoa hHb hPb L1 L2 L3 hno'
  obtain ⟨pk, ph, pcy, pkn, pim, pip, psn, pch⟩ := p
  obtain ⟨Kh, Kc, Kp⟩ := K
  simp only at *
  subst hkn
  generalize H.reg.kinds.length = nk at *
  generalize H.issued = iss at *
  generalize H.works = wk at *
  generalize L.oa = oa at *
  go_enter Tryd.func76, Tryd.ntmps76
  go_wp2
  go_region_held3 (fun w' => w'.cell? ⟨L.hb, 0, none⟩ = some (.slice (some ⟨kb, koff, none⟩) nk L.kc) ∧ w'.cell? ⟨L.pb i, 0, none⟩ = some (.int .i64 (kn : Int)) ∧
    w'.cell? ⟨kb, koff + kn * 3, none⟩ = some (.int .i64 Kh) ∧ w'.cell? ⟨kb, koff + kn * 3 + 1, none⟩ = some (.int .i64 Kc) ∧ w'.cell? ⟨kb, koff + kn * 3 + 2, none⟩ = some (.int .i64 Kp)) (go_keep) (fail)
  go_wp2
  go_quiet (fail)
  go_wp2
  go_loopg [4, 43] no (fun gg s4 s43 wr => ∃ (kk : Nat) (hc : Int), kk ≤ no ∧ no - kk ≤ gg ∧ s43 = .int .i64 kk ∧ s4 = .int .i64 hc ∧ -200000 ≤ hc ∧ hc ≤ 200000 ∧ Aside (Below w.heap.size w wr) ∧
    Aside (leftGo (kn : Int) H.reg.orders iss pch psn (Kh - ph) = leftGo (kn : Int) (H.reg.orders.drop kk) (iss.drop kk) (pch.drop kk) (psn.drop kk) hc))
  case atStart =>
    exact ⟨0, _, Nat.zero_le _, by omega, rfl, rfl, by omega, by omega, below_drewN ((Below.refl _ _).alloc (Nat.le_refl _) _) _, rfl⟩
  case round =>
    obtain ⟨kk, hc, hkk, hg, rfl, rfl, hc0, hc1, BW, A⟩ := hrel
    by_cases hlt : kk < no
    · have hltz : (kk : Int) < (no : Int) := by omega
      have hk0 : (0 : Int) ≤ (kk : Int) := by omega
      obtain ⟨rfl, hob⟩ := HOA.out (by omega)
      have BB : Below B w wr := BW.out.mono (by omega)
      have hsz := BW.out.size
      have o0 := HOC.out kk hlt 0 _ rfl
      have o1 := HOC.out kk hlt 1 _ rfl
      rw [← BB.cell (p := ⟨ob, ooff + kk * 2 + 0, none⟩) hob, Nat.add_zero] at o0
      rw [← BB.cell (p := ⟨ob, ooff + kk * 2 + 1, none⟩) hob] at o1
      have h5 := HB5.out wr BW.out
      have i5 := HI'.out wr BW.out kk hlt
      obtain ⟨q0, q6, q7⟩ := HPB.out wr BW.out
      have cc := HC'.out wr BW.out kk hlt
      have sn := HN'.out wr BW.out kk hlt
      have sb := HSB'.out kk hlt
      have ok := HOB'.out kk hlt
      have hL := HLT.out
      have e1 : L.hb < wr.heap.size := by omega
      have e2 : L.ib < wr.heap.size := by omega
      have e3 : L.pb i < wr.heap.size := by omega
      have e4 : L.sb i < wr.heap.size := by omega
      have e5 : L.cb i < wr.heap.size := by omega
      have D : Aside (leftGo (kn : Int) (H.reg.orders.drop kk) (iss.drop kk) (pch.drop kk) (psn.drop kk) hc = leftGo (kn : Int) (H.reg.orders.drop (kk + 1)) (iss.drop (kk + 1)) (pch.drop (kk + 1)) (psn.drop (kk + 1)) (if iss[kk]! && (H.reg.orders[kk]!.kind == (kn : Int) && !pch[kk]!) then min hc (H.reg.orders[kk]!.within - psn[kk]!) else hc)) :=
        leftGo_drop _ _ _ _ _ kk hc (by rw [HNO.out]; exact hlt) (by rw [HNO.out]; exact L1'.out) (by rw [HNO.out]; exact L2'.out) (by rw [HNO.out]; exact L3'.out)
      clear hL hob
      generalize H.reg.orders[kk]! = o at *
      obtain ⟨okd, owi⟩ := o
      simp only at *
      generalize iss[kk]! = b at *
      generalize pch[kk]! = c at *
      generalize psn[kk]! = sv at *
      cases b with
      | false =>
        go_wp2
        go_quiet (fail)
        go_wp2
        all_goals
          go_roundg (no - (kk + 1))
          case measure => omega
          case rel =>
            refine ⟨kk + 1, _, by omega, by omega, by go_num, rfl, by omega, by omega, below_drewN (BW.out.alloc hsz _) _, ?_⟩
            show _ = _
            rw [A.out, D.out]
            first | rfl | (congr 1; first | (simp; done) | (simp; omega) | (simp [*]; done) | (simp [*]; omega))
      | true =>
        by_cases hk : okd = (kn : Int)
        · subst hk
          cases c with
          | false =>
            go_wp2
            go_quiet (fail)
            go_wp2
            go_quiet (fail)
            go_wp2
            all_goals
              go_roundg (no - (kk + 1))
              case measure => omega
              case rel =>
                refine ⟨kk + 1, _, by omega, by omega, by go_num, rfl, by omega, by omega, below_drewN (BW.out.alloc hsz _) _, ?_⟩
                show _ = _
                rw [A.out, D.out]
                first | rfl | (congr 1; first | (simp; done) | (simp; omega) | (simp [*]; done) | (simp [*]; omega))
          | true =>
            go_wp2
            go_quiet (fail)
            go_wp2
            all_goals
              go_roundg (no - (kk + 1))
              case measure => omega
              case rel =>
                refine ⟨kk + 1, _, by omega, by omega, by go_num, rfl, by omega, by omega, below_drewN (BW.out.alloc hsz _) _, ?_⟩
                show _ = _
                rw [A.out, D.out]
                first | rfl | (congr 1; first | (simp; done) | (simp; omega) | (simp [*]; done) | (simp [*]; omega))
        · have hd : decide (okd = (kn : Int)) = false := by simpa using hk
          have hb : (okd == (kn : Int)) = false := by simpa using hk
          go_wp2
          go_quiet (fail)
          go_wp2
          all_goals
            go_roundg (no - (kk + 1))
            case measure => omega
            case rel =>
              refine ⟨kk + 1, _, by omega, by omega, by go_num, rfl, by omega, by omega, below_drewN (BW.out.alloc hsz _) _, ?_⟩
              show _ = _
              rw [A.out, D.out]
              first | rfl | (congr 1; first | (simp; done) | (simp; omega) | (simp [*]; done) | (simp [*]; omega))
    · have hltz : ¬ (kk : Int) < (no : Int) := by omega
      have : kk = no := by omega
      subst this
      go_wp2
      go_ret2
      refine ⟨?_, BW.out⟩
      rw [A.out, leftGo_end _ _ _ _ _ _ _ (by rw [HNO.out]; exact Nat.le_refl _)]
      rfl
end Go.Proofs.YtchnhjffpldpiaaDoor

/- hangar.lacks and hangar.longest, walked. -/
namespace Go.Proofs.YtchnhjffpldpiaaDoor
open Go.RowKit
attribute [local go_sem] eqi_spot eqi_pair gd_spot gd_pair

variable {w : World} {B : Nat} {L : HL} {H : HS}

theorem info_pair : ((Tryd.prog).info? 30).map (fun i => (i.zero, i.size, i.bytes)) = some (some (.agg #[.int .i64 0, .int .i64 0]), 2, 16) := by kernel_rfl

theorem lacksOf_succ (H : HS) (m : Int) (k n : Nat) : lacksOf H m k (n + 1) = lacksOf H m k n ++ (if H.at k m n < 0 then [((k : Int), (n : Int))] else []) := by
  simp only [lacksOf, List.range_succ, List.filter_append, List.map_append]
  congr 1
  by_cases h : H.at k m n < 0 <;> simp [h]
theorem lacksUpTo_succ (H : HS) (m : Int) (k : Nat) : lacksUpTo H m (k + 1) = lacksUpTo H m k ++ lacksOf H m k (H.reg.kinds[k]!).places.toNat := by
  simp [lacksUpTo, List.range_succ]
theorem lacksOf_len (H : HS) (m : Int) (k n : Nat) : (lacksOf H m k n).length ≤ n := by
  simp only [lacksOf, List.length_map]
  exact Nat.le_trans (List.length_filter_le _ _) (by simp)
theorem lacksUpTo_len (H : HS) (hs : H.reg.Small) (m : Int) (k : Nat) (hk : k ≤ H.reg.kinds.length) : (lacksUpTo H m k).length ≤ 4 * k := by
  induction k with
  | zero => simp [lacksUpTo]
  | succ k ih =>
    rw [lacksUpTo_succ, List.length_append]
    have h1 := ih (by omega)
    have h2 := lacksOf_len H m k (H.reg.kinds[k]!).places.toNat
    have h3 := hs.kinds k (by omega)
    omega

/-- What an owned row of pairs reads as. -/
theorem rd_of_owns {α : Type} [Inhabited α] {enc : α → List Value} {k : Nat} (hk : ∀ x, (enc x).length = k) {w : World} {base : Nat} {e : TypeId} {v : Value} {xs : List α} (h : w.ownsRow base e k v xs.length (xs.flatMap enc)) :
    ∃ a c, v = .slice a xs.length c ∧ Rd enc k w w.heap.size a xs.length xs := by
  have key : ∀ (xs : List α) (j i : Nat) (u : Value), j < xs.length → (enc xs[j]!)[i]? = some u → (xs.flatMap enc)[j * k + i]? = some u := by
    intro xs
    induction xs with
    | nil => intro j i u hj; simp at hj
    | cons x xs ih =>
      intro j i u hj hu
      have hi : i < k := by
        rw [← hk (x :: xs)[j]!]
        exact (List.getElem?_eq_some_iff.1 hu).1
      rw [List.flatMap_cons]
      cases j with
      | zero =>
        rw [Nat.zero_mul, Nat.zero_add, List.getElem?_append_left (by rw [hk]; exact hi)]
        simpa using hu
      | succ j =>
        rw [List.getElem?_append_right (by rw [hk, Nat.succ_mul]; omega), hk, show (j + 1) * k + i - k = j * k + i by rw [Nat.succ_mul]; omega]
        exact ih j i u (by simpa using hj) (by simpa using hu)
  rcases h.2 with ⟨rfl, hn⟩ | ⟨g, cap, cur, rfl, hb, hg, hnc, hcm, hcs, ht⟩
  · exact ⟨none, 0, by rw [hn], ⟨rfl, by omega, 0, 0, fun hp => absurd hn (by omega), fun j hj => absurd hn (by omega)⟩⟩
  · refine ⟨_, _, rfl, ⟨rfl, by simp only [maxLen] at hcm; omega, g, 0, fun _ => ⟨rfl, (Array.getElem?_eq_some_iff.1 hg).1⟩, fun j hj i u hu => ?_⟩⟩
    have h1 := key xs j i u hj hu
    rw [← ht, List.getElem?_take] at h1
    split at h1
    · simpa [World.cell?, hg] using h1
    · cases h1

theorem grown_of_below {w w' : World} (hb : Below w.heap.size w w') : w.grownBy w' none := ⟨hb.os, hb.tape, hb.output, hb.size, fun k hk _ => hb.block k hk⟩

/-- The cells of a block that was just made, as an append wants them. -/
theorem newsN (w : World) (cs : List Value) (T : TypeId) : ∀ (j : Nat) (u : Value), cs[j]? = some u → (w.alloc (.cells cs.toArray T)).cell? ((⟨w.heap.size, 0, none⟩ : Addr).add j) = some u := by
  intro j u h
  have e : ((⟨w.heap.size, 0, none⟩ : Addr).add j) = ⟨w.heap.size, j, none⟩ := by
    unfold Addr.add
    split <;> simp_all
  rw [e, World.cell?_alloc_new]
  simpa using h

set_option maxRecDepth 100000 in
set_option maxHeartbeats 2000000 in
theorem lacks_any (h : IsH w B L H) (hf : H.Fit) (m : Int) :
    Calls Tryd.prog 80 #[.pointer (some ⟨L.hb, 0, none⟩), .int .i64 m] w fun e w' =>
      (∃ v, e = .returned v ∧ w'.ownsRow w.heap.size 30 2 v (H.lacks m).length ((H.lacks m).flatMap encPair)) ∧ Below w.heap.size w w' := by
  have hs := small_of_valid hf.valid
  have hnk := hs.nk
  have c0 := h.h0
  have HL := fun k (hk : k ≤ H.reg.kinds.length) => lacksUpTo_len H hs m k hk
  have HK := fun k (hk : k < H.reg.kinds.length) => hs.kinds k hk
  have HAT := fun W (hW : Below w.heap.size w W) (k pl : Int) => at_any (h.below hW) hf k m pl
  have hBw := h.base
  have hlh : L.hb < w.heap.size := h.lt .h trivial
  obtain ⟨kb, koff, hka, hkc⟩ := h.reg.kinds.ex
  obtain ⟨i0, hi, hz0, hz1, hz2⟩ := info_parts info_pair
  have HKA := Lib.hid hka
  have HKC := Lib.hid hkc
  have HL' := Lib.hid HL
  have HK' := Lib.hid HK
  have HAT' := Lib.hid HAT
  clear h hf hs hka hkc HL HK HAT
  unfold HS.lacks
  generalize hnk' : H.reg.kinds.length = nk at *
  generalize L.ka = ka at *
  clear hnk'
  go_enter Tryd.func80, Tryd.ntmps80
  go_wp2
  go_loopg [4, 14] nk (fun gg s4 s14 wr => ∃ kk : Nat, kk ≤ nk ∧ nk - kk ≤ gg ∧ s14 = .int .i64 kk ∧ Aside (Below w.heap.size w wr) ∧ Aside (wr.ownsRow w.heap.size 30 2 s4 (lacksUpTo H m kk).length ((lacksUpTo H m kk).flatMap encPair)))
  case atStart => exact ⟨0, Nat.zero_le _, by omega, rfl, Below.refl _ _, World.ownsRow_nil _ _ _ _⟩
  case round =>
    obtain ⟨kk, hkk, hg, rfl, BW, OW⟩ := hrel
    obtain ⟨wo, rfl⟩ : ∃ wo : World, wo = wr := ⟨_, rfl⟩
    by_cases hlt : kk < nk
    · have hltz : (kk : Int) < (nk : Int) := by omega
      have hk0 : (0 : Int) ≤ (kk : Int) := by omega
      obtain ⟨rfl, hkb⟩ := HKA.out (by omega)
      have BB : Below B w wo := BW.out.mono (by omega)
      have hsz := BW.out.size
      have k0 := HKC.out kk hlt 0 _ rfl
      have k1 := HKC.out kk hlt 1 _ rfl
      have k2 := HKC.out kk hlt 2 _ rfl
      rw [← BB.cell (p := ⟨kb, koff + kk * 3 + 0, none⟩) hkb, Nat.add_zero] at k0
      rw [← BB.cell (p := ⟨kb, koff + kk * 3 + 1, none⟩) hkb] at k1
      rw [← BB.cell (p := ⟨kb, koff + kk * 3 + 2, none⟩) hkb] at k2
      have kk3 := HK'.out kk hlt
      have e1 : kb < wo.heap.size := by omega
      have SU := Lib.hid (lacksUpTo_succ H m kk)
      have LL := HL'.out kk hkk
      have H0 := HK'.out kk hlt
      generalize H.reg.kinds[kk]! = K at *
      obtain ⟨Kh, Kc, Kp⟩ := K
      simp only at *
      go_wp2
      have B1 := BW.out.alloc hsz (Obj.cells #[Value.int IntKind.i64 Kh, Value.int IntKind.i64 Kc, Value.int IntKind.i64 Kp] 53)
      have O1 := OW.out.alloc (Obj.cells #[Value.int IntKind.i64 Kh, Value.int IntKind.i64 Kc, Value.int IntKind.i64 Kp] 53)
      go_loopg [4, 21] Kp.toNat (fun gg s4 s21 wx => ∃ pp : Nat, pp ≤ Kp.toNat ∧ Kp.toNat - pp ≤ gg ∧ s21 = .int .i64 pp ∧ Aside (Below w.heap.size w wx) ∧
        Aside (wx.ownsRow w.heap.size 30 2 s4 (lacksUpTo H m kk ++ lacksOf H m kk pp).length ((lacksUpTo H m kk ++ lacksOf H m kk pp).flatMap encPair)))
      case atStart =>
        refine ⟨0, Nat.zero_le _, by omega, rfl, B1, ?_⟩
        show World.ownsRow _ _ _ _ _ _ _
        simpa [lacksOf] using O1
      case round =>
        obtain ⟨pp, hpp, hgp, rfl, BX, OX⟩ := hrel
        clear B1 O1
        by_cases hp : pp < Kp.toNat
        · have hpz : (pp : Int) < Kp := by omega
          have hp0 : (0 : Int) ≤ (pp : Int) := by omega
          have LX := lacksOf_len H m kk pp
          have SX := Lib.hid (lacksOf_succ H m kk pp)
          have CT := Lib.hid (HAT'.out _ BX.out (kk : Int) (pp : Int))
          by_cases hat : H.at kk m pp < 0
          · go_wp2_with fail
            refine CT.out.mono ?_
            rintro e w2 ⟨rfl, hb2⟩
            have BY := BX.out.trans (hb2.mono BX.out.size)
            have OY := OX.out.kept (grown_of_below hb2) (by cases h : Value.ownBlock _ <;> simp)
            go_wp2_with (first | (at_builtin; refine wpList_append_own _ rfl _ _ 26 rfl w.heap.size 30 i0 (.agg #[.int .i64 0, .int .i64 0]) 2 16 Tryd.underlying26 hi hz0 hz1 hz2 rfl (by decide) _ _ _ rfl (OY.alloc _) ⟨w2.heap.size, 0, none⟩ 1 1 [.int .i64 kk, .int .i64 pp] rfl rfl ?c1 ?c2 ?c3 ?c4 ?c5 ?_))
            case c1 => exact newsN w2 _ _
            case c2 => simp [Value.oneCell']
            case c3 => simp only [List.length_append, maxLen]; omega
            case c4 => simp only [List.length_append]; omega
            case c5 => have := BY.size; simp; omega
            rintro v3 w3 O3 G3 -
            go_wp2
            go_roundg (Kp.toNat - (pp + 1))
            case measure => omega
            case rel =>
              refine ⟨pp + 1, by omega, by omega, by go_num, ?_, ?_⟩
              · exact (BY.alloc BY.size _).grown G3 (by have := BY.size; simp; omega) (fun k hk => (OY.lt k hk).1)
              · show World.ownsRow _ _ _ _ _ _ _
                rw [SX.out, if_pos hat]
                simpa [encPair, Nat.add_assoc] using O3
          · go_wp2_with fail
            refine CT.out.mono ?_
            rintro e w2 ⟨rfl, hb2⟩
            have BY := BX.out.trans (hb2.mono BX.out.size)
            have OY := OX.out.kept (grown_of_below hb2) (by cases h : Value.ownBlock _ <;> simp)
            go_wp2
            go_roundg (Kp.toNat - (pp + 1))
            case measure => omega
            case rel =>
              refine ⟨pp + 1, by omega, by omega, by go_num, BY, ?_⟩
              show World.ownsRow _ _ _ _ _ _ _
              rw [SX.out, if_neg (by omega), List.append_nil]
              exact OY
        · have hpz : ¬ (pp : Int) < Kp := by omega
          have : pp = Kp.toNat := by omega
          subst this
          go_wp2
          go_roundg (nk - (kk + 1))
          case measure => omega
          case rel =>
            refine ⟨kk + 1, by omega, by omega, by go_num, BX, ?_⟩
            show World.ownsRow _ _ _ _ _ _ _
            rw [SU.out]
            exact OX.out
    · have hltz : ¬ (kk : Int) < (nk : Int) := by omega
      have : kk = nk := by omega
      subst this
      go_wp2
      go_ret
      exact ⟨⟨_, rfl, OW.out⟩, BW.out⟩
end Go.Proofs.YtchnhjffpldpiaaDoor

/- hangar.longest, walked. -/
namespace Go.Proofs.YtchnhjffpldpiaaDoor
open Go.RowKit
attribute [local go_sem] eqi_spot eqi_pair gd_spot gd_pair

variable {w : World} {B : Nat} {L : HL} {H : HS}

theorem longGo_drop (H : HS) (m cyc : Int) (ps : List PS) (k : Nat) (most : Int) (hk : k < ps.length) :
    longGo H m cyc (ps.drop k) most = if (ps[k]!).im = m then (if (H.left ps[k]!).2 < cyc then -1 else longGo H m cyc (ps.drop (k + 1)) (min most (H.left ps[k]!).1)) else longGo H m cyc (ps.drop (k + 1)) most := by
  rw [List.drop_eq_getElem_cons hk, getElem!_pos ps k hk]
  rfl

set_option maxRecDepth 100000 in
set_option maxHeartbeats 2000000 in
theorem longest_any (h : IsH w B L H) (hf : H.Fit) (m cyc : Int) :
    Calls Tryd.prog 67 #[.pointer (some ⟨L.hb, 0, none⟩), .int .i64 m, .int .i64 cyc] w fun e w' => e = .returned (.int .i64 (H.longest m cyc)) ∧ Below w.heap.size w w' := by
  have K := Lib.hid (lacks_any h hf m)
  obtain ⟨pv, pcc, hv, hpa⟩ := partsV_eq L H.parts.length
  have H4 : ∀ W, Below w.heap.size w W → W.cell? ⟨L.hb, 4, none⟩ = some (.slice pv H.parts.length pcc) := fun W hW => by rw [(h.below hW).h4, hv]
  have HP : ∀ W, Below w.heap.size w W → ∀ j, j < H.parts.length → W.cell? ⟨L.pr, j, none⟩ = some (.pointer (some ⟨L.pb j, 0, none⟩)) := fun W hW j hj => by
    rw [show L.pr = L.blk .pr from rfl, (h.below hW).cell .pr (by show 0 < _; omega) j]
    simp [cellsOf, List.getElem?_append_left, hj]
  have HM : ∀ W, Below w.heap.size w W → ∀ j, j < H.parts.length → W.cell? ⟨L.pb j, 4, none⟩ = some (.int .i64 (H.parts[j]!).im) := fun W hW j hj => (h.below hW).p4 hj
  have HL := fun W (hW : Below w.heap.size w W) j (hj : j < H.parts.length) => left_any (h.below hW) hf j hj
  have hnp : H.parts.length ≤ 24 := by rw [hf.parts]; exact (small_of_valid hf.valid).np
  have E : H.longest m cyc = if (H.lacks m).length > 0 then -1 else longGo H m cyc H.parts 100 := rfl
  have EE := Lib.hid E
  have H4' := Lib.hid H4
  have HP' := Lib.hid HP
  have HM' := Lib.hid HM
  have HL' := Lib.hid HL
  have HPA := Lib.hid hpa
  have DR := Lib.hid (longGo_drop H m cyc H.parts)
  clear h hf H4 HP HM HL hv hpa E
  generalize hnp' : H.parts.length = np at *
  go_enter Tryd.func67, Tryd.ntmps67
  go_wp2_with fail
  refine K.out.mono ?_
  rintro e w1 ⟨⟨v, rfl, OW⟩, hb1⟩
  obtain ⟨a, c, rfl, -⟩ := rd_of_owns (by intro x; rfl) OW
  have BW1 := Lib.hid hb1
  have c4 := H4'.out w1 hb1
  clear OW hb1 K
  generalize hll : (H.lacks m).length = ll at *
  by_cases hl : 0 < ll
  · have hlz : (0 : Int) < (ll : Int) := by omega
    go_wp2
    go_ret
    exact ⟨ret_int (by rw [EE.out, if_pos (by omega)]), BW1.out⟩
  · have hlz : ¬ (0 : Int) < (ll : Int) := by omega
    have EE2 : Aside (H.longest m cyc = longGo H m cyc H.parts 100) := by
      show _ = _
      rw [EE.out, if_neg (by omega)]
    clear EE
    have HNP := Lib.hid hnp'
    clear hnp' hll
    go_wp2
    go_loopg [7, 22] np (fun gg s7 s22 wr => ∃ (kk : Nat) (most : Int), kk ≤ np ∧ np - kk ≤ gg ∧ s22 = .int .i64 kk ∧ s7 = .int .i64 most ∧ Aside (Below w.heap.size w wr) ∧
      Aside (longGo H m cyc H.parts 100 = longGo H m cyc (H.parts.drop kk) most))
    case atStart => exact ⟨0, 100, Nat.zero_le _, by omega, rfl, rfl, BW1.out, rfl⟩
    case round =>
      obtain ⟨kk, most, hkk, hg, rfl, rfl, BW, A⟩ := hrel
      by_cases hlt : kk < np
      · have hltz : (kk : Int) < (np : Int) := by omega
        have hk0 : (0 : Int) ≤ (kk : Int) := by omega
        obtain rfl := HPA.out (by omega)
        have q := HP'.out wr BW.out kk hlt
        have qm := HM'.out wr BW.out kk hlt
        have CT := Lib.hid (HL'.out wr BW.out kk hlt)
        have D := Lib.hid (DR.out kk most hlt)
        generalize H.parts[kk]! = p at *
        by_cases hm : p.im = m
        · have hmz : (p.im == m) = true := by simpa using hm
          have hmn : (p.im != m) = false := by simpa using hm
          have D1 : Aside (longGo H m cyc (H.parts.drop kk) most = if (H.left p).2 < cyc then -1 else longGo H m cyc (H.parts.drop (kk + 1)) (min most (H.left p).1)) := by
            show _ = _
            rw [D.out, if_pos hm]
          clear D
          obtain ⟨lh, hlh⟩ : ∃ x, (H.left p).1 = x := ⟨_, rfl⟩
          obtain ⟨lc, hlc⟩ : ∃ x, (H.left p).2 = x := ⟨_, rfl⟩
          rw [hlh, hlc] at D1 CT
          clear hlh hlc
          by_cases hlcc : lc < cyc
          · go_wp2_with fail
            refine CT.out.mono ?_
            rintro e w2 ⟨rfl, hb2⟩
            go_wp2
            go_ret
            exact ⟨ret_int (by rw [EE2.out, A.out, D1.out, if_pos hlcc]), BW.out.trans (hb2.mono BW.out.size)⟩
          · go_wp2_with fail
            refine CT.out.mono ?_
            rintro e w2 ⟨rfl, hb2⟩
            go_wp2
            all_goals
              go_roundg (np - (kk + 1))
              case measure => omega
              case rel =>
                refine ⟨kk + 1, _, by omega, by omega, by go_num, rfl, BW.out.trans (hb2.mono BW.out.size), ?_⟩
                show _ = _
                rw [A.out, D1.out, if_neg (by omega)]
                first | rfl | (congr 1; omega)
        · have hmz : (p.im == m) = false := by simpa using hm
          have hmn : (p.im != m) = true := by simpa using hm
          go_wp2_with fail
          go_roundg (np - (kk + 1))
          case measure => omega
          case rel =>
            refine ⟨kk + 1, _, by omega, by omega, by go_num, rfl, BW.out, ?_⟩
            show _ = _
            rw [A.out, D.out, if_neg hm]
      · have hltz : ¬ (kk : Int) < (np : Int) := by omega
        have : kk = np := by omega
        subst this
        go_wp2
        go_ret
        refine ⟨ret_int ?_, BW.out⟩
        rw [EE2.out, A.out, List.drop_eq_nil_of_le (by rw [HNP.out]; exact Nat.le_refl _)]
        rfl
end Go.Proofs.YtchnhjffpldpiaaDoor

/- hangar.fly, walked. -/
namespace Go.Proofs.YtchnhjffpldpiaaDoor
open Go.RowKit
attribute [local go_sem] eqi_spot eqi_pair gd_spot gd_pair
attribute [local go_sem ↓] Go.wp_at_zero Go.wp_at_succ

variable {w : World} {B : Nat} {L : HL} {H : HS}

theorem code_named {P : Program} {c : Code} {Q : Exit → Act → World → Prop} {a : Act} {w : World} (h : ∀ W, W = w → c.wp P Q a W) : c.wp P Q a w := h w rfl

/-- The parts behind k rounds of a flight. -/
def FlyTo (H : HS) (m hours cyc : Int) (k : Nat) (P : List PS) : Prop := P.length = H.parts.length ∧ ∀ i, i < H.parts.length → P[i]! = if i < k then flyPart H m hours cyc H.parts[i]! else H.parts[i]!
/-- A part's hours since the orders behind j rounds. -/
def SinceTo (hours : Int) (issued : List Bool) (since : List Int) (j : Nat) (S : List Int) : Prop := S.length = since.length ∧ ∀ i, i < since.length → S[i]! = if i < j then (if issued[i]! then since[i]! + hours else since[i]!) else since[i]!

theorem ext_get! {α : Type} [Inhabited α] {a b : List α} (hl : a.length = b.length) (h : ∀ i, i < a.length → a[i]! = b[i]!) : a = b := by
  apply List.ext_getElem hl
  intro i h1 h2
  have := h i h1
  rwa [getElem!_pos a i h1, getElem!_pos b i h2] at this

theorem SinceTo.done {hours : Int} {issued : List Bool} {since S : List Int} (h : SinceTo hours issued since since.length S) (hl : issued.length = since.length) : S = flySince hours issued since := by
  have hz : (flySince hours issued since).length = since.length := by simp [flySince, hl]
  refine ext_get! (by rw [h.1, hz]) fun i hi => ?_
  rw [h.1] at hi
  rw [h.2 i hi, if_pos hi, getElem!_pos (flySince hours issued since) i (by omega)]
  simp only [flySince, List.getElem_zipWith]
  rw [getElem!_pos issued i (by omega), getElem!_pos since i hi]

theorem FlyTo.done {m hours cyc : Int} {P : List PS} (h : FlyTo H m hours cyc H.parts.length P) : P = H.parts.map (flyPart H m hours cyc) := by
  refine ext_get! (by rw [h.1]; simp) fun i hi => ?_
  rw [h.1] at hi
  rw [h.2 i hi, if_pos hi, getElem!_pos (H.parts.map _) i (by simpa using hi), List.getElem_map, getElem!_pos H.parts i hi]

set_option maxRecDepth 100000 in
set_option maxHeartbeats 1000000 in
theorem fly_no (h : IsH w B L H) (hf : H.Fit) (m hours cyc : Int) (hg : flyGuard H m hours cyc = false) :
    Calls Tryd.prog 143 #[.pointer (some ⟨L.hb, 0, none⟩), .int .i64 m, .int .i64 hours, .int .i64 cyc] w fun e w' => e = .returned (.bool false) ∧ Below w.heap.size w w' := by
  have K1 := Lib.hid (machine_any h hf m)
  have K2 := Lib.hid (longest_any h hf m cyc)
  have HG := Lib.hid hg
  clear h hf hg
  go_enter Tryd.func143, Tryd.ntmps143
  go_wp2_with (first | (go_at_call 65; refine K1.out.mono ?_; rintro e w' ⟨rfl, rfl⟩) | (go_at_call 66; refine (within_any _ _ _ _).mono ?_; rintro e w' ⟨rfl, rfl⟩) | (go_at_call 67; refine K2.out.mono ?_; rintro e w' ⟨rfl, hb⟩))
  all_goals first
    | (go_ret; exact ⟨rfl, by first | exact Below.refl _ _ | assumption⟩)
    | (exfalso; have hx := HG.out; first | (simp [flyGuard, *] at hx; done) | (simp [flyGuard, *] at hx; omega))

theorem flyGuard_parts {m hours cyc : Int} (h : flyGuard H m hours cyc = true) : H.machine m = true ∧ inB hours 0 100 = true ∧ inB cyc 0 100 = true ∧ hours ≤ H.longest m cyc := by
  simpa [flyGuard] using h

theorem flatMap_get? {α : Type} [Inhabited α] (enc : α → List Value) (k : Nat) (hk : ∀ x, (enc x).length = k) : ∀ (xs : List α) (j i : Nat) (u : Value), j < xs.length → (enc xs[j]!)[i]? = some u → (xs.flatMap enc)[j * k + i]? = some u := by
  intro xs
  induction xs with
  | nil => intro j i u hj; simp at hj
  | cons x xs ih =>
    intro j i u hj hu
    have hi : i < k := by
      rw [← hk (x :: xs)[j]!]
      exact (List.getElem?_eq_some_iff.1 hu).1
    rw [List.flatMap_cons]
    cases j with
    | zero =>
      rw [Nat.zero_mul, Nat.zero_add, List.getElem?_append_left (by rw [hk]; exact hi)]
      simpa using hu
    | succ j =>
      rw [List.getElem?_append_right (by rw [hk, Nat.succ_mul]; omega), hk, show (j + 1) * k + i - k = j * k + i by rw [Nat.succ_mul]; omega]
      exact ih j i u (by simpa using hj) (by simpa using hu)

theorem IsH.flown0 (h : IsH w B L H) (j : Nat) (hj : j < H.flown.length) : w.cell? ⟨L.fb, j * 2, none⟩ = some (.int .i64 (H.flown[j]!).1) :=
  (h.cell .fb trivial (j * 2)).trans (flatMap_get? encPair 2 (fun _ => rfl) H.flown j 0 _ hj rfl)
theorem IsH.flown1 (h : IsH w B L H) (j : Nat) (hj : j < H.flown.length) : w.cell? ⟨L.fb, j * 2 + 1, none⟩ = some (.int .i64 (H.flown[j]!).2) :=
  (h.cell .fb trivial (j * 2 + 1)).trans (flatMap_get? encPair 2 (fun _ => rfl) H.flown j 1 _ hj rfl)
theorem IsH.drew (h : IsH w B L H) : IsH w.drew B L H := h.below ((Below.refl _ _).drew)

theorem IsH.prow (h : IsH w B L H) (j : Nat) (hj : j < H.parts.length) : w.cell? ⟨L.pr, j, none⟩ = some (.pointer (some ⟨L.pb j, 0, none⟩)) := by
  rw [show L.pr = L.blk .pr from rfl, h.cell .pr (by show 0 < _; omega) j]
  simp [cellsOf, List.getElem?_append_left, hj]
theorem IsH.issued' (h : IsH w B L H) (k : Nat) (hk : k < H.issued.length) : w.cell? ⟨L.ib, k, none⟩ = some (.bool H.issued[k]!) :=
  (h.cell .ib trivial k).trans (map_get? _ _ _ hk)
theorem IsH.chk' (h : IsH w B L H) (i : Nat) (hi : i < H.parts.length) (k : Nat) (hk : k < (H.parts[i]!).chk.length) : w.cell? ⟨L.cb i, k, none⟩ = some (.bool (H.parts[i]!).chk[k]!) :=
  (h.cell (.chk i) hi k).trans (map_get? _ _ _ hk)
theorem IsH.since' (h : IsH w B L H) (i : Nat) (hi : i < H.parts.length) (k : Nat) (hk : k < (H.parts[i]!).since.length) : w.cell? ⟨L.sb i, k, none⟩ = some (.int .i64 (H.parts[i]!).since[k]!) :=
  (h.cell (.since i) hi k).trans (map_get? _ _ _ hk)
theorem IsH.ltp (h : IsH w B L H) (i : Nat) (hi : i < H.parts.length) : L.pb i < w.heap.size := h.lt (.part i) hi
theorem IsH.frp (h : IsH w B L H) (i : Nat) (hi : i < H.parts.length) (o : Nat) : w.frozen? ⟨L.pb i, o, none⟩ = false := h.frozen (.part i) hi o
theorem IsH.frs (h : IsH w B L H) (i : Nat) (hi : i < H.parts.length) (o : Nat) : w.frozen? ⟨L.sb i, o, none⟩ = false := h.frozen (.since i) hi o
theorem IsH.frf (h : IsH w B L H) (o : Nat) : w.frozen? ⟨L.fb, o, none⟩ = false := h.frozen .fb trivial o

theorem IsH.cong {H' : HS} (h : IsH w B L H) (e : H' = H) : IsH w B L H' := e ▸ h

set_option maxRecDepth 100000 in
set_option maxHeartbeats 4000000 in
theorem fly_yes (h : IsH w B L H) (hf : H.Fit) (m hours cyc : Int) (hg : flyGuard H m hours cyc = true) :
    Calls Tryd.prog 143 #[.pointer (some ⟨L.hb, 0, none⟩), .int .i64 m, .int .i64 hours, .int .i64 cyc] w fun e w' => e = .returned (.bool true) ∧ Below B w w' ∧
      IsH w' B L { H with parts := H.parts.map (flyPart H m hours cyc), flown := addFlown H.flown m.toNat hours cyc } := by
  obtain ⟨g1, g2, g3, g4⟩ := flyGuard_parts hg
  have K1 := Lib.hid (machine_any h hf m)
  have K2 := Lib.hid (longest_any h hf m cyc)
  rw [g1] at K1
  have hh := inB_iff.1 g2
  have hcc := inB_iff.1 g3
  have hmm := inB_iff.1 g1
  have hs := small_of_valid hf.valid
  have hnp : H.parts.length ≤ 24 := by rw [hf.parts]; exact hs.np
  have hno := hs.no
  have hw0 := hf.works0
  have hw1 := hf.works1
  obtain ⟨mn, rfl⟩ : ∃ mn : Nat, m = mn := ⟨m.toNat, by omega⟩
  have hmn : mn < H.flown.length := by have := hf.flown; omega
  have hm4 := hs.m1
  have hfl := hf.flowns mn hmn
  obtain ⟨pv, pcc, hv, hpa⟩ := partsV_eq L H.parts.length
  have HH := Lib.hid h
  have HF := Lib.hid hf
  have HV := Lib.hid hv
  have HPA := Lib.hid hpa
  clear h hf hg g1 hmm hs hv hpa
  go_enter Tryd.func143, Tryd.ntmps143
  go_wp2_with (first | (go_at_call 65; refine K1.out.mono ?_; rintro e w' ⟨rfl, rfl⟩) | (go_at_call 66; refine (within_any _ _ _ _).mono ?_; rintro e w' ⟨rfl, rfl⟩; rw [(by assumption : inB _ 0 100 = true)]))
  refine K2.out.mono ?_
  rintro e w1 ⟨rfl, hb1⟩
  have h1 := HH.out.below hb1
  have c4 := h1.h4
  rw [HV.out] at c4
  have H1 := Lib.hid h1
  have HB := Lib.hid (hb1.mono HH.out.base)
  have hNP := Lib.hid (rfl : H.parts.length = H.parts.length)
  clear K1 K2 h1 hb1
  generalize hnp' : H.parts.length = np at c4
  have HNP := Lib.hid hnp'
  have hnp2 : np ≤ 24 := by omega
  clear hnp'
  go_wp2
  go_loopg [39] np (fun gg s39 wr => ∃ (kk : Nat) (P : List PS), kk ≤ np ∧ np - kk ≤ gg ∧ s39 = .int .i64 kk ∧ Aside (FlyTo H mn hours cyc kk P) ∧ Aside (IsH wr B L { H with parts := P }) ∧ Aside (Below B w wr))
  case atStart => exact ⟨0, H.parts, Nat.zero_le _, by omega, rfl, ⟨rfl, fun i hi => by simp⟩, H1.out, HB.out⟩
  case round =>
    obtain ⟨kk, P, hkk, hg, rfl, FT, IH, BW⟩ := hrel
    by_cases hlt : kk < np
    · have hltz : (kk : Int) < (np : Int) := by omega
      have hk0 : (0 : Int) ≤ (kk : Int) := by omega
      obtain rfl := HPA.out (by have := HNP.out; omega)
      have hkP : kk < P.length := by have := HNP.out; have := FT.out.1; omega
      have hkH : kk < H.parts.length := by have := HNP.out; omega
      have q := IH.out.prow kk hkP
      have qm := IH.out.p4 hkP
      have q1 := IH.out.p1 hkP
      have q2 := IH.out.p2 hkP
      have r1 := IH.out.frp kk hkP 1
      have r2 := IH.out.frp kk hkP 2
      have c5 := IH.out.h5
      have hPk : P[kk]! = H.parts[kk]! := by rw [FT.out.2 kk hkH, if_neg (by omega)]
      have b1 := HF.out.hours kk hkH
      have b2 := HF.out.cycles kk hkH
      have b3 := fun j (hj : j < H.reg.orders.length) => HF.out.sinces kk j hkH hj
      have l3 := HF.out.since kk hkH
      have l4 := HF.out.issued
      simp only at qm q1 q2 c5
      rw [hPk] at qm q1 q2
      have B3 := Lib.hid b3
      have L3 := Lib.hid l3
      have L4 := Lib.hid l4
      have PK := Lib.hid hPk
      have HKP := Lib.hid hkP
      have HKH := Lib.hid hkH
      clear b3 l3 l4 hPk hkP hkH
      generalize hp : H.parts[kk]! = p at qm q1 q2 b1 b2
      have HP := Lib.hid hp
      clear hp
      by_cases hm : p.im = (mn : Int)
      · have hmn' : (p.im != (mn : Int)) = false := by simpa using hm
        have I1 := (IH.out.putPart kk HKP.out 1 (.int .i64 (p.hours + hours)) { P[kk]! with hours := p.hours + hours } rfl rfl rfl)
        have I2 := (I1.putPart kk (by rw [HS.setPart_len]; exact HKP.out) 2 (.int .i64 (p.cycles + cyc)) { P[kk]! with hours := p.hours + hours, cycles := p.cycles + cyc } (by rw [HS.setPart_get _ _ _ _ HKP.out, if_pos rfl]; rfl) (by rw [HS.setPart_get _ _ _ _ HKP.out, if_pos rfl]) (by rw [HS.setPart_get _ _ _ _ HKP.out, if_pos rfl]))
        have I2' : Aside (IsH ((wr.setCell ⟨L.pb kk, 1, none⟩ (.int .i64 (p.hours + hours))).setCell ⟨L.pb kk, 2, none⟩ (.int .i64 (p.cycles + cyc))) B L { H with parts := P.set kk { p with hours := p.hours + hours, cycles := p.cycles + cyc } }) := by
          refine I2.cong ?_
          simp only [HS.setPart, List.set_set, PK.out, HP.out]
        have HBK : B ≤ L.pb kk := (IH.out.blocks (.part kk) HKP.out).2
        have BW2 := Lib.hid ((BW.out.setCell (p := ⟨L.pb kk, 1, none⟩) HBK (.int .i64 (p.hours + hours))).setCell (p := ⟨L.pb kk, 2, none⟩) HBK (.int .i64 (p.cycles + cyc)))
        clear I1 I2 HBK
        have LP3 : Aside (p.since.length = H.reg.orders.length) := by
          have := L3.out
          rw [HP.out] at this
          exact this
        have B4 : Aside (∀ j, j < H.reg.orders.length → 0 ≤ p.since[j]! ∧ p.since[j]! ≤ 100 * H.works) := by
          have := B3.out
          rw [HP.out] at this
          exact this
        generalize hno' : H.reg.orders.length = no at c5 hno
        have HNO := Lib.hid hno'
        clear hno'
        go_wp2
        obtain ⟨wo, rfl⟩ : ∃ wo : World, wo = wr := ⟨_, rfl⟩
        go_loopg [75] no (fun gg s75 wx => ∃ (jj : Nat) (S : List Int), jj ≤ no ∧ no - jj ≤ gg ∧ s75 = .int .i64 jj ∧ Aside (SinceTo hours H.issued p.since jj S) ∧
          Aside (IsH wx B L { H with parts := P.set kk { p with hours := p.hours + hours, cycles := p.cycles + cyc, since := S } }) ∧ Aside (Below B w wx))
        case atStart => exact ⟨0, p.since, Nat.zero_le _, by omega, rfl, ⟨rfl, fun i hi => by simp⟩, I2', BW2.out⟩
        case round =>
          obtain ⟨jj, S, hjj, hgj, rfl, ST, IX, BX⟩ := hrel
          clear I2' BW2 q qm q1 q2 r1 r2 c5
          by_cases hj : jj < no
          · have hjz : (jj : Int) < (no : Int) := by omega
            have hj0 : (0 : Int) ≤ (jj : Int) := by omega
            have hlen : kk < (P.set kk { p with hours := p.hours + hours, cycles := p.cycles + cyc, since := S }).length := by rw [List.length_set]; exact HKP.out
            have hget : (P.set kk { p with hours := p.hours + hours, cycles := p.cycles + cyc, since := S })[kk]! = { p with hours := p.hours + hours, cycles := p.cycles + cyc, since := S } := by
              rw [set_get! _ _ _ _ HKP.out, if_pos rfl]
            have hSl : S.length = no := by rw [ST.out.1, LP3.out, HNO.out]
            have hSj : S[jj]! = p.since[jj]! := by rw [ST.out.2 jj (by rw [LP3.out, HNO.out]; exact hj), if_neg (by omega)]
            have d5 := IX.out.h5
            simp only [HNO.out] at d5
            have d6 := IX.out.p6 hlen
            simp only [HNO.out] at d6
            have di := IX.out.issued' jj (by rw [L4.out, HNO.out]; exact hj)
            simp only at di
            have ds := IX.out.since' kk hlen jj (by show jj < ((P.set kk _)[kk]!).since.length; rw [hget]; show jj < S.length; omega)
            simp only [hget, hSj] at ds
            have fs := IX.out.frs kk hlen jj
            have bs := B4.out jj (by rw [HNO.out]; exact hj)
            have HLN := Lib.hid hlen
            have HGT := Lib.hid hget
            have HSL := Lib.hid hSl
            have HSJ := Lib.hid hSj
            clear hlen hget hSl hSj
            generalize hsv : p.since[jj]! = sv at ds bs
            have HSV := Lib.hid hsv
            clear hsv
            cases hb : H.issued[jj]! with
            | true =>
              have HBT := Lib.hid hb
              rw [hb] at di
              clear hb
              go_wp2
              go_roundg (no - (jj + 1))
              case measure => omega
              case rel =>
                refine ⟨jj + 1, S.set jj (sv + hours), by omega, by omega, by go_num, ⟨by rw [List.length_set]; exact ST.out.1, fun i hi => ?_⟩, ?_, ?_⟩
                · rw [set_get! _ _ _ _ (by rw [HSL.out]; exact hj)]
                  by_cases e : i = jj
                  · subst e
                    rw [if_pos rfl, if_pos (by omega), HBT.out, HSV.out]
                    rfl
                  · rw [if_neg e, ST.out.2 i hi]
                    by_cases e2 : i < jj
                    · have e3 : i < jj + 1 := by omega
                      rw [if_pos e2, if_pos e3]
                    · have e3 : ¬ i < jj + 1 := by omega
                      rw [if_neg e2, if_neg e3]
                · refine (IX.out.putSince kk HLN.out jj (sv + hours)).cong ?_
                  simp only [HS.setPart, List.set_set, HGT.out]
                · exact BX.out.setCell (p := ⟨L.sb kk, jj, none⟩) (IX.out.blocks (.since kk) HLN.out).2 _
            | false =>
              have HBT := Lib.hid hb
              rw [hb] at di
              clear hb
              go_wp2
              go_roundg (no - (jj + 1))
              case measure => omega
              case rel =>
                refine ⟨jj + 1, S, by omega, by omega, by go_num, ⟨ST.out.1, fun i hi => ?_⟩, IX.out, BX.out⟩
                rw [ST.out.2 i hi]
                by_cases e : i = jj
                · subst e
                  rw [if_neg (by omega), if_pos (by omega), HBT.out]
                  rfl
                · by_cases e2 : i < jj
                  · have e3 : i < jj + 1 := by omega
                    rw [if_pos e2, if_pos e3]
                  · have e3 : ¬ i < jj + 1 := by omega
                    rw [if_neg e2, if_neg e3]
          · have hjz : ¬ (jj : Int) < (no : Int) := by omega
            have : jj = no := by omega
            subst this
            go_wp2
            go_roundg (np - (kk + 1))
            case measure => omega
            case rel =>
              refine ⟨kk + 1, _, by omega, by omega, by go_num, ⟨by rw [List.length_set]; exact FT.out.1, fun i hi => ?_⟩, IX.out, BX.out⟩
              rw [set_get! _ _ _ _ HKP.out]
              by_cases e : i = kk
              · subst e
                rw [if_pos rfl, if_pos (by omega), flyPart, HP.out, if_pos hm]
                have hS : S = flySince hours H.issued p.since := SinceTo.done (by have := ST.out; rw [LP3.out, HNO.out]; exact this) (by rw [L4.out, LP3.out])
                rw [hS]
              · rw [if_neg e, FT.out.2 i hi]
                by_cases e2 : i < kk
                · rw [if_pos e2, if_pos (by omega)]
                · rw [if_neg e2, if_neg (by omega)]
      · have hmn' : (p.im != (mn : Int)) = true := by simpa using hm
        go_wp2
        go_roundg (np - (kk + 1))
        case measure => omega
        case rel =>
          refine ⟨kk + 1, P, by omega, by omega, by go_num, ⟨FT.out.1, fun i hi => ?_⟩, IH.out, BW.out⟩
          rw [FT.out.2 i hi]
          by_cases e : i = kk
          · subst e
            rw [if_neg (by omega), if_pos (by omega), flyPart, HP.out, if_neg hm]
          · by_cases e2 : i < kk
            · rw [if_pos e2, if_pos (by omega)]
            · rw [if_neg e2, if_neg (by omega)]
    · have hltz : ¬ (kk : Int) < (np : Int) := by omega
      have : kk = np := by omega
      subst this
      have hP : P = H.parts.map (flyPart H mn hours cyc) := FlyTo.done (by rw [HNP.out]; exact FT.out)
      have d6 := IH.out.h6
      simp only at d6
      have f0 : wr.cell? ⟨L.fb, mn * 2, none⟩ = some (.int .i64 (H.flown[mn]!).1) := IH.out.flown0 mn hmn
      have f1 : wr.cell? ⟨L.fb, mn * 2 + 1, none⟩ = some (.int .i64 (H.flown[mn]!).2) := IH.out.flown1 mn hmn
      have g0 := IH.out.frf (mn * 2)
      have g1 := IH.out.frf (mn * 2 + 1)
      have hmz : (mn : Int) < (H.flown.length : Int) := by omega
      have hne : L.fb ≠ L.hb := fun e => by have := IH.out.inj .fb .h trivial trivial e; cases this
      have hne' : L.hb ≠ L.fb := fun e => hne e.symm
      generalize hfe : H.flown[mn]! = fe at *
      obtain ⟨fe1, fe2⟩ := fe
      simp only at f0 f1 hfl
      have HFE := Lib.hid hfe
      have HPP := Lib.hid hP
      clear hfe hP
      have HML := Lib.hid hmn
      generalize H.flown.length = nf at d6 hmz
      go_wp2
      go_region
      go_wp2
      go_region
      go_wp2
      go_ret
      refine ⟨rfl, ?_, ?_⟩
      · have hb := (IH.out.blocks .fb trivial).2
        exact (((BW.out.setCell (p := ⟨L.fb, mn * 2, none⟩) hb _).setCell (p := ⟨L.fb, mn * 2 + 1, none⟩) hb _).drew).drew
      · have hl0 : mn < H.flown.length := HML.out
        have J1 := IH.out.putFlown0 mn hl0 (fe1 + hours)
        have J2 := (J1.putFlown1 mn (by simp only [List.length_set]; exact hl0) (fe2 + cyc)).drew.drew
        refine J2.cong ?_
        simp only [HPP.out, addFlown, Int.toNat_natCast, HFE.out, List.set_set, set_get! _ _ _ _ hl0, if_true]
end Go.Proofs.YtchnhjffpldpiaaDoor
