/- The reference of layer 38: Content. NOT BUILT YET: the conversion of a string to bytes wants a law. -/
import Derived.Test.YtapefonhgkjgnaaGreatRfA
import Derived.Test.YtapefonhgkjgnaaGreatConvB
set_option maxRecDepth 20000
namespace Go.Proofs.YtapefonhgkjgnaaGreat
open Go.RowKit

set_option maxHeartbeats 1000000 in
theorem rcont_any (s : Ld.Sw) (a : SwA) (w : World) (hi : SwIn w s a) (hv : s.vld = true) : Calls Tryz.prog 41 #[aggN 23 (softV s a)] w (OwnOf (Ld.cont s) w) := by
  obtain ⟨⟨a1, a2⟩, ⟨b1, b2⟩, c5, _⟩ := (Ld.Sw.vld_iff s).1 hv
  have hq : (⟨s.name.toArray⟩ : ByteArray).size = s.name.length := by show s.name.toArray.size = _; rw [List.size_toArray]
  obtain ⟨q, hqe⟩ : ∃ q : ByteArray, (⟨s.name.toArray⟩ : ByteArray) = q := ⟨_, rfl⟩
  rw [hqe] at hq
  have HQ := Lib.hid hqe
  obtain ⟨v, hve⟩ : ∃ v : Nat, s.ver = (v : Int) := ⟨s.ver.toNat, (Int.toNat_of_nonneg b1).symm⟩
  have hv20 : v ≤ 1048576 := by omega
  have HC : Hid ([UInt8.ofNat s.name.length] ++ s.name ++ Ld.le v 4 ++ Ld.le s.img.length 2 ++ s.img = Ld.cont s) := by show _ = _; unfold Ld.cont; rw [hve, Int.toNat_natCast]
  have l4 := Ld.le_len 4 v
  have l2 := Ld.le_len 2 s.img.length
  have li4 := fun W h => rnumber_any v 4 W h (by omega)
  have li2 := fun W h => rnumber_any s.img.length 2 W h (by omega)
  obtain ⟨A4, hA4⟩ : ∃ A, Ld.le v 4 = A := ⟨_, rfl⟩
  obtain ⟨A2, hA2⟩ : ∃ A, Ld.le s.img.length 2 = A := ⟨_, rfl⟩
  obtain ⟨out, hout⟩ : ∃ A, Ld.cont s = A := ⟨_, rfl⟩
  rw [hA4] at l4 li4 HC
  rw [hA2] at l2 li2 HC
  rw [hout] at HC ⊢
  go_enter Tryz.func41, Tryz.ntmps41
  go_wp2_with (refine wpList_boxN rfl _ _ rfl rfl ?_; intro W g hB hz; refine Hid.out ?_)
  unfold Hid
  have c0 := g.name
  have c1 := g.ver
  have c2 := g.img
  rw [hqe] at c0
  rw [hve] at c1
  have HI := Lib.hid hi.1
  have hi2 := Lib.hid hi.2.1
  clear g hi hqe hve hv hA4 hA2 hout
  obtain ⟨nm, hnm⟩ : ∃ m, s.name = m := ⟨_, rfl⟩
  obtain ⟨im, him⟩ : ∃ m, s.img = m := ⟨_, rfl⟩
  rw [hnm] at HQ HC hq a1 a2
  rw [him] at HC c2 HI li2 c5
  obtain ⟨m, hm⟩ : ∃ m, nm.length = m := ⟨_, rfl⟩
  obtain ⟨n, hn⟩ : ∃ n, im.length = n := ⟨_, rfl⟩
  rw [hm] at hq HC a1 a2
  rw [hn] at c2 li2 c5
  obtain ⟨u, hu⟩ : ∃ u, UInt8.ofNat m = u := ⟨_, rfl⟩
  have hwk : IntKind.u8.wrap (m : Int) = (u.toNat : Int) := by
    rw [← hu, UInt8.toNat_ofNat', Nat.mod_eq_of_lt (by omega)]
    simp [IntKind.wrap, IntKind.bits, IntKind.signed]; omega
  have hwv : IntKind.u32.wrap (v : Int) = (v : Int) := by simp [IntKind.wrap, IntKind.bits, IntKind.signed]; omega
  have hwn : IntKind.u32.wrap (n : Int) = (n : Int) := by simp [IntKind.wrap, IntKind.bits, IntKind.signed]; omega
  rw [hu] at HC
  obtain ⟨p1, hp1⟩ : ∃ p, [u] ++ nm = p := ⟨_, rfl⟩
  rw [hp1] at HC
  obtain ⟨p2, hp2⟩ : ∃ p, p1 ++ A4 = p := ⟨_, rfl⟩
  rw [hp2] at HC
  obtain ⟨p3, hp3⟩ : ∃ p, p2 ++ A2 = p := ⟨_, rfl⟩
  rw [hp3] at HC
  have z1 := Lib.hid (show p1.length ≤ 100 by rw [← hp1, List.length_append, hm]; simp; omega)
  have z2 := Lib.hid (show p2.length ≤ 200 by rw [← hp2, List.length_append]; have := z1.out; omega)
  have z3 := Lib.hid (show p3.length ≤ 300 by rw [← hp3, List.length_append]; have := z2.out; omega)
  have H1 := Lib.hid hp1
  have H2 := Lib.hid hp2
  have H3 := Lib.hid hp3
  have HM := Lib.hid hm
  have HN := Lib.hid hn
  have L4 := Lib.hid l4
  have L2 := Lib.hid l2
  have z0 : w.heap.size < W.heap.size := by omega
  have C1 := Lib.hid c1
  have C2 := Lib.hid c2
  clear hp1 hp2 hp3 hm hn hu hnm him l4 l2 hz
  have hO0 : OwnsB W.heap.size (W.alloc (.cells #[.int .u8 (u.toNat : Int)] 5)) (some ⟨W.heap.size, 0, none⟩) 1 [u] := OwnsB.whole W.heap.size W.heap.size W [u] _ rfl (Nat.le_refl _) rfl (by simp)
  have HO0 := Lib.hid hO0
  have hL1 : ([u] : List UInt8).length + nm.length ≤ 10000000 := by have := HM.out; simp; omega
  clear hO0
  go_wp2_with (refine wpList_strB rfl _ rfl HQ.out rfl ?_; intro yq cq wq dq nq bq; refine Hid.out ?_)
  unfold Hid
  try simp only [Act.put, List.setIfInBounds_toArray, List.set_cons_zero, List.set_cons_succ]
  have HO1 := Lib.hid (HO0.out.later bq)
  have hBq := (al (Below.refl W.heap.size W) (.cells #[.int .u8 (u.toNat : Int)] 5)).trans (bq.mono (by simp))
  have HBQ := Lib.hid hBq
  have hsq := hBq.size
  have d1q := later hBq c1
  have d2q := later hBq c2
  clear bq hBq HO0 c0 c1 c2
  have c1 := d1q
  have c2 := d2q
  clear d1q d2q
  go_wp2_with (at_builtin; refine wpList_app rfl _ _ rfl (B := W.heap.size) (l := [u]) HO1.out rfl (m := nm) rfl dq nq hL1 H1.out hsq ?_; intro x1 k1 w1 o1 b1 _; refine Hid.out ?_)
  unfold Hid
  have hB1 := HBQ.out.trans b1
  have d1 := later_lt (a := ⟨w.heap.size, 1, none⟩) b1 z0 c1
  have zq := hL1
  clear zq hL1 dq HO1 HBQ hsq
  have O1 := Lib.hid o1
  have zB1 := Nat.lt_of_lt_of_le z0 hB1.size
  clear c1 c2 b1 o1
  go_wp2_with fail
  refine (li4 _ (by omega)).mono ?_
  rintro e w2 ⟨y2, cy2, rfl, y2o, hb2⟩
  have hB2 := hB1.trans (hb2.mono hB1.size)
  have O2 := Lib.hid (O1.out.later hb2)
  clear d1 hB1 O1 hb2 li4 zB1
  go_wp2_with (at_builtin; refine wpList_app rfl _ _ rfl (B := W.heap.size) (l := p1) O2.out rfl (m := A4) rfl y2o.bts y2o.none_cap (by have := z1.out; have := L4.out; omega) H2.out hB2.size ?_; intro x3 k3 w3 o3 b3 _; refine Hid.out ?_)
  unfold Hid
  have hB3 := hB2.trans b3
  have d2 := later hB3 C2.out
  have O3 := Lib.hid o3
  have zB3 := Nat.lt_of_lt_of_le z0 hB3.size
  clear b3 o3 hB2 O2 y2o
  go_wp2_with fail
  refine (li2 _ (by omega)).mono ?_
  rintro e w4 ⟨y4, cy4, rfl, y4o, hb4⟩
  have hB4 := hB3.trans (hb4.mono hB3.size)
  have O4 := Lib.hid (O3.out.later hb4)
  clear d2 hB3 O3 hb4 li2 zB3
  go_wp2_with (at_builtin; refine wpList_app rfl _ _ rfl (B := W.heap.size) (l := p2) O4.out rfl (m := A2) rfl y4o.bts y4o.none_cap (by have := z2.out; have := L2.out; omega) H3.out hB4.size ?_; intro x5 k5 w5 o5 b5 _; refine Hid.out ?_)
  unfold Hid
  have hB5 := hB4.trans b5
  have d2 := later hB5 C2.out
  have I5 := HI.out.later (thru hB hB5)
  have O5 := Lib.hid o5
  have zB5 := Nat.lt_of_lt_of_le z0 hB5.size
  clear b5 o5 hB4 O4 y4o
  go_wp2_with (at_builtin; refine wpList_app rfl _ _ rfl (B := W.heap.size) (l := p3) O5.out rfl (m := im) (by rw [HN.out]; rfl) I5 hi2.out (by have := z3.out; have := HN.out; omega) HC.out hB5.size ?_; intro x6 k6 w6 o6 b6 _; refine Hid.out ?_)
  unfold Hid
  have hB6 := thru hB (hB5.trans b6)
  have O6 := Lib.hid o6
  clear b6 o6 hB5 O5 d2 zB5 I5
  go_wp2_with fail
  go_ret
  exact ⟨x6, k6, rfl, O6.out.weaken hB.size, hB6⟩

end Go.Proofs.YtapefonhgkjgnaaGreat
