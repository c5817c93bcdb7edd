/- hangar.lacks and hangar.longest, walked. -/
import Derived.Test.YtchnhjffpldpiaaDoorH2
import Derived.OwnWalk
import Derived.Maps.AppendAt
namespace Go.Proofs.YtchnhjffpldpiaaDoor
open Go.RowKit
attribute [local go_sem] eqi_spot eqi_pair gd_spot gd_pair

variable {w : World} {B : Nat} {L : HL} {H : HS}

theorem info_pair : ((Tryd.prog).info? 30).map (fun i => (i.zero, i.size, i.bytes)) = some (some (.agg #[.int .i64 0, .int .i64 0]), 2, 16) := by kernel_rfl

theorem lacksOf_succ (H : HS) (m : Int) (k n : Nat) : lacksOf H m k (n + 1) = lacksOf H m k n ++ (if H.at k m n < 0 then [((k : Int), (n : Int))] else []) := by
  simp only [lacksOf, List.range_succ, List.filter_append, List.map_append]
  congr 1
  by_cases h : H.at k m n < 0 <;> simp [h]
theorem lacksUpTo_succ (H : HS) (m : Int) (k : Nat) : lacksUpTo H m (k + 1) = lacksUpTo H m k ++ lacksOf H m k (H.reg.kinds[k]!).places.toNat := by
  simp [lacksUpTo, List.range_succ]
theorem lacksOf_len (H : HS) (m : Int) (k n : Nat) : (lacksOf H m k n).length ≤ n := by
  simp only [lacksOf, List.length_map]
  exact Nat.le_trans (List.length_filter_le _ _) (by simp)
theorem lacksUpTo_len (H : HS) (hs : H.reg.Small) (m : Int) (k : Nat) (hk : k ≤ H.reg.kinds.length) : (lacksUpTo H m k).length ≤ 4 * k := by
  induction k with
  | zero => simp [lacksUpTo]
  | succ k ih =>
    rw [lacksUpTo_succ, List.length_append]
    have h1 := ih (by omega)
    have h2 := lacksOf_len H m k (H.reg.kinds[k]!).places.toNat
    have h3 := hs.kinds k (by omega)
    omega

/-- What an owned row of pairs reads as. -/
theorem rd_of_owns {α : Type} [Inhabited α] {enc : α → List Value} {k : Nat} (hk : ∀ x, (enc x).length = k) {w : World} {base : Nat} {e : TypeId} {v : Value} {xs : List α} (h : w.ownsRow base e k v xs.length (xs.flatMap enc)) :
    ∃ a c, v = .slice a xs.length c ∧ Rd enc k w w.heap.size a xs.length xs := by
  have key : ∀ (xs : List α) (j i : Nat) (u : Value), j < xs.length → (enc xs[j]!)[i]? = some u → (xs.flatMap enc)[j * k + i]? = some u := by
    intro xs
    induction xs with
    | nil => intro j i u hj; simp at hj
    | cons x xs ih =>
      intro j i u hj hu
      have hi : i < k := by
        rw [← hk (x :: xs)[j]!]
        exact (List.getElem?_eq_some_iff.1 hu).1
      rw [List.flatMap_cons]
      cases j with
      | zero =>
        rw [Nat.zero_mul, Nat.zero_add, List.getElem?_append_left (by rw [hk]; exact hi)]
        simpa using hu
      | succ j =>
        rw [List.getElem?_append_right (by rw [hk, Nat.succ_mul]; omega), hk, show (j + 1) * k + i - k = j * k + i by rw [Nat.succ_mul]; omega]
        exact ih j i u (by simpa using hj) (by simpa using hu)
  rcases h.2 with ⟨rfl, hn⟩ | ⟨g, cap, cur, rfl, hb, hg, hnc, hcm, hcs, ht⟩
  · exact ⟨none, 0, by rw [hn], ⟨rfl, by omega, 0, 0, fun hp => absurd hn (by omega), fun j hj => absurd hn (by omega)⟩⟩
  · refine ⟨_, _, rfl, ⟨rfl, by simp only [maxLen] at hcm; omega, g, 0, fun _ => ⟨rfl, (Array.getElem?_eq_some_iff.1 hg).1⟩, fun j hj i u hu => ?_⟩⟩
    have h1 := key xs j i u hj hu
    rw [← ht, List.getElem?_take] at h1
    split at h1
    · simpa [World.cell?, hg] using h1
    · cases h1

theorem grown_of_below {w w' : World} (hb : Below w.heap.size w w') : w.grownBy w' none := ⟨hb.os, hb.tape, hb.output, hb.size, fun k hk _ => hb.block k hk⟩

/-- The cells of a block that was just made, as an append wants them. -/
theorem newsN (w : World) (cs : List Value) (T : TypeId) : ∀ (j : Nat) (u : Value), cs[j]? = some u → (w.alloc (.cells cs.toArray T)).cell? ((⟨w.heap.size, 0, none⟩ : Addr).add j) = some u := by
  intro j u h
  have e : ((⟨w.heap.size, 0, none⟩ : Addr).add j) = ⟨w.heap.size, j, none⟩ := by
    unfold Addr.add
    split <;> simp_all
  rw [e, World.cell?_alloc_new]
  simpa using h

set_option maxRecDepth 100000 in
set_option maxHeartbeats 2000000 in
theorem lacks_any (h : IsH w B L H) (hf : H.Fit) (m : Int) :
    Calls Tryd.prog 80 #[.pointer (some ⟨L.hb, 0, none⟩), .int .i64 m] w fun e w' =>
      (∃ v, e = .returned v ∧ w'.ownsRow w.heap.size 30 2 v (H.lacks m).length ((H.lacks m).flatMap encPair)) ∧ Below w.heap.size w w' := by
  have hs := small_of_valid hf.valid
  have hnk := hs.nk
  have c0 := h.h0
  have HL := fun k (hk : k ≤ H.reg.kinds.length) => lacksUpTo_len H hs m k hk
  have HK := fun k (hk : k < H.reg.kinds.length) => hs.kinds k hk
  have HAT := fun W (hW : Below w.heap.size w W) (k pl : Int) => at_any (h.below hW) hf k m pl
  have hBw := h.base
  have hlh : L.hb < w.heap.size := h.lt .h trivial
  obtain ⟨kb, koff, hka, hkc⟩ := h.reg.kinds.ex
  obtain ⟨i0, hi, hz0, hz1, hz2⟩ := info_parts info_pair
  have HKA := Lib.hid hka
  have HKC := Lib.hid hkc
  have HL' := Lib.hid HL
  have HK' := Lib.hid HK
  have HAT' := Lib.hid HAT
  clear h hf hs hka hkc HL HK HAT
  unfold HS.lacks
  generalize hnk' : H.reg.kinds.length = nk at *
  generalize L.ka = ka at *
  clear hnk'
  go_enter Tryd.func80, Tryd.ntmps80
  go_wp2
  go_loopg [4, 14] nk (fun gg s4 s14 wr => ∃ kk : Nat, kk ≤ nk ∧ nk - kk ≤ gg ∧ s14 = .int .i64 kk ∧ Aside (Below w.heap.size w wr) ∧ Aside (wr.ownsRow w.heap.size 30 2 s4 (lacksUpTo H m kk).length ((lacksUpTo H m kk).flatMap encPair)))
  case atStart => exact ⟨0, Nat.zero_le _, by omega, rfl, Below.refl _ _, World.ownsRow_nil _ _ _ _⟩
  case round =>
    obtain ⟨kk, hkk, hg, rfl, BW, OW⟩ := hrel
    obtain ⟨wo, rfl⟩ : ∃ wo : World, wo = wr := ⟨_, rfl⟩
    by_cases hlt : kk < nk
    · have hltz : (kk : Int) < (nk : Int) := by omega
      have hk0 : (0 : Int) ≤ (kk : Int) := by omega
      obtain ⟨rfl, hkb⟩ := HKA.out (by omega)
      have BB : Below B w wo := BW.out.mono (by omega)
      have hsz := BW.out.size
      have k0 := HKC.out kk hlt 0 _ rfl
      have k1 := HKC.out kk hlt 1 _ rfl
      have k2 := HKC.out kk hlt 2 _ rfl
      rw [← BB.cell (p := ⟨kb, koff + kk * 3 + 0, none⟩) hkb, Nat.add_zero] at k0
      rw [← BB.cell (p := ⟨kb, koff + kk * 3 + 1, none⟩) hkb] at k1
      rw [← BB.cell (p := ⟨kb, koff + kk * 3 + 2, none⟩) hkb] at k2
      have kk3 := HK'.out kk hlt
      have e1 : kb < wo.heap.size := by omega
      have SU := Lib.hid (lacksUpTo_succ H m kk)
      have LL := HL'.out kk hkk
      have H0 := HK'.out kk hlt
      generalize H.reg.kinds[kk]! = K at *
      obtain ⟨Kh, Kc, Kp⟩ := K
      simp only at *
      go_wp2
      have B1 := BW.out.alloc hsz (Obj.cells #[Value.int IntKind.i64 Kh, Value.int IntKind.i64 Kc, Value.int IntKind.i64 Kp] 53)
      have O1 := OW.out.alloc (Obj.cells #[Value.int IntKind.i64 Kh, Value.int IntKind.i64 Kc, Value.int IntKind.i64 Kp] 53)
      go_loopg [4, 21] Kp.toNat (fun gg s4 s21 wx => ∃ pp : Nat, pp ≤ Kp.toNat ∧ Kp.toNat - pp ≤ gg ∧ s21 = .int .i64 pp ∧ Aside (Below w.heap.size w wx) ∧
        Aside (wx.ownsRow w.heap.size 30 2 s4 (lacksUpTo H m kk ++ lacksOf H m kk pp).length ((lacksUpTo H m kk ++ lacksOf H m kk pp).flatMap encPair)))
      case atStart =>
        refine ⟨0, Nat.zero_le _, by omega, rfl, B1, ?_⟩
        show World.ownsRow _ _ _ _ _ _ _
        simpa [lacksOf] using O1
      case round =>
        obtain ⟨pp, hpp, hgp, rfl, BX, OX⟩ := hrel
        clear B1 O1
        by_cases hp : pp < Kp.toNat
        · have hpz : (pp : Int) < Kp := by omega
          have hp0 : (0 : Int) ≤ (pp : Int) := by omega
          have LX := lacksOf_len H m kk pp
          have SX := Lib.hid (lacksOf_succ H m kk pp)
          have CT := Lib.hid (HAT'.out _ BX.out (kk : Int) (pp : Int))
          by_cases hat : H.at kk m pp < 0
          · go_wp2_with fail
            refine CT.out.mono ?_
            rintro e w2 ⟨rfl, hb2⟩
            have BY := BX.out.trans (hb2.mono BX.out.size)
            have OY := OX.out.kept (grown_of_below hb2) (by cases h : Value.ownBlock _ <;> simp)
            go_wp2_with (first | (at_builtin; refine wpList_append_own _ rfl _ _ 26 rfl w.heap.size 30 i0 (.agg #[.int .i64 0, .int .i64 0]) 2 16 Tryd.underlying26 hi hz0 hz1 hz2 rfl (by decide) _ _ _ rfl (OY.alloc _) ⟨w2.heap.size, 0, none⟩ 1 1 [.int .i64 kk, .int .i64 pp] rfl rfl ?c1 ?c2 ?c3 ?c4 ?c5 ?_))
            case c1 => exact newsN w2 _ _
            case c2 => simp [Value.oneCell']
            case c3 => simp only [List.length_append, maxLen]; omega
            case c4 => simp only [List.length_append]; omega
            case c5 => have := BY.size; simp; omega
            rintro v3 w3 O3 G3 -
            go_wp2
            go_roundg (Kp.toNat - (pp + 1))
            case measure => omega
            case rel =>
              refine ⟨pp + 1, by omega, by omega, by go_num, ?_, ?_⟩
              · exact (BY.alloc BY.size _).grown G3 (by have := BY.size; simp; omega) (fun k hk => (OY.lt k hk).1)
              · show World.ownsRow _ _ _ _ _ _ _
                rw [SX.out, if_pos hat]
                simpa [encPair, Nat.add_assoc] using O3
          · go_wp2_with fail
            refine CT.out.mono ?_
            rintro e w2 ⟨rfl, hb2⟩
            have BY := BX.out.trans (hb2.mono BX.out.size)
            have OY := OX.out.kept (grown_of_below hb2) (by cases h : Value.ownBlock _ <;> simp)
            go_wp2
            go_roundg (Kp.toNat - (pp + 1))
            case measure => omega
            case rel =>
              refine ⟨pp + 1, by omega, by omega, by go_num, BY, ?_⟩
              show World.ownsRow _ _ _ _ _ _ _
              rw [SX.out, if_neg (by omega), List.append_nil]
              exact OY
        · have hpz : ¬ (pp : Int) < Kp := by omega
          have : pp = Kp.toNat := by omega
          subst this
          go_wp2
          go_roundg (nk - (kk + 1))
          case measure => omega
          case rel =>
            refine ⟨kk + 1, by omega, by omega, by go_num, BX, ?_⟩
            show World.ownsRow _ _ _ _ _ _ _
            rw [SU.out]
            exact OX.out
    · have hltz : ¬ (kk : Int) < (nk : Int) := by omega
      have : kk = nk := by omega
      subst this
      go_wp2
      go_ret
      exact ⟨⟨_, rfl, OW.out⟩, BW.out⟩
end Go.Proofs.YtchnhjffpldpiaaDoor
