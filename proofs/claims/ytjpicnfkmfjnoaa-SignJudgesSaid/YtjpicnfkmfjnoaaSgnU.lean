/- WALKS of the reference of the sign layer: Digits, Step, Advance. -/
import Derived.Test.YtjpicnfkmfjnoaaSgnK
namespace Go.Proofs.Ytjpicnfkmfjnoaa
open Go.RowKit

theorem nib_dig (d : D64) (i : Nat) : num (d >>> (4 * i)) % 16 = ((Sgn.dg d i : Nat) : Int) := by
  unfold num Sgn.dg
  omega
theorem shr4 (d : D64) (i : Nat) : num (d >>> (4 * i)) / 16 = num (d >>> (4 * (i + 1))) := by
  rw [show 4 * (i + 1) = 4 * i + 4 by omega, BitVec.shiftRight_add]
  exact shr_of _ 4
set_option maxHeartbeats 2000000 in
theorem refDigits_any (d : D64) (w : World) : Calls Try.prog 12 #[.int .u64 (num d)] w fun e w' => e = .returned (arrA (digV d)) ∧ Below w.heap.size w w' := by
  have hd0 : d = d >>> (4 * 0) := by simp
  obtain ⟨d0, hd⟩ : ∃ x, d = x := ⟨_, rfl⟩
  have HD : Hid (num d = num (d >>> (4 * 0))) := by show _ = _; rw [← hd0]
  go_enter Try.func12, Try.ntmps12
  go_wp2_with (refine wpList_allocTo 2 rfl rfl _ rfl arrI_zero ?_; intro X2 a2 hb hz; refine Hid.out ?_)
  unfold Hid
  try simp only [Act.put, List.setIfInBounds_toArray, List.set_cons_zero, List.set_cons_succ]
  obtain ⟨b2, hb2⟩ : ∃ a, w.heap.size = a := ⟨_, rfl⟩
  have s2 : w.heap.size ≤ b2 := by omega
  rw [hb2] at a2 hz ⊢
  clear hb2
  go_wp2_with (refine wpList_allocTo 3 rfl rfl _ rfl arrI_zero ?_; intro X3 a3 hbb hz3; refine Hid.out ?_)
  unfold Hid
  try simp only [Act.put, List.setIfInBounds_toArray, List.set_cons_zero, List.set_cons_succ]
  obtain ⟨b3, hb3⟩ : ∃ a, X2.heap.size = a := ⟨_, rfl⟩
  have s3 : b2 < b3 := by omega
  replace hb := thru hb hbb
  replace a2 := a2.later hbb
  rw [hb3] at a3 hz3 ⊢
  clear hbb hb3 hz hz3
  have A2 := a2.arr
  have A3 := a3.arr
  clear a2 a3
  go_wp2_with fail
  go_loopw [0, 4, 5] (fun u0 u4 u5 wr => ∃ i : Nat, i ≤ 16 ∧ u5 = .int .i64 (i : Int) ∧ u4 = .int .i64 ((Sgn.lack d i : Nat) : Int) ∧ u0 = .int .u64 (num (d >>> (4 * i))) ∧ Below w.heap.size w wr ∧ Arr wr b3 (fun j => if j < i then .int .i64 ((Sgn.dg d j : Nat) : Int) else .int .i64 0) ∧ Arr wr b2 (fun _ => .int .i64 0)) (fun _ _ u5 _ => 16 - (intOf u5).toNat)
  case atStart => exact ⟨0, by omega, rfl, rfl, by rw [HD.out], hb, A3, A2⟩
  case round =>
    clear hb A2 A3 hd0 hd
    obtain ⟨i, hi, rfl, rfl, rfl, hB, hA, hR⟩ := hrel
    have hlk := Sgn.lack_le d i
    by_cases hlt : i < 16
    · have hli : decide ((i : Int) < 16) = true := by simp; omega
      have hci := hA i (by omega)
      have hd15 := Sgn.dg_lt d i
      have hn := nib_dig d i
      have hs := shr4 d i
      obtain ⟨y, hy⟩ : ∃ y, d >>> (4 * i) = y := ⟨_, rfl⟩
      obtain ⟨y2, hy2⟩ : ∃ y, d >>> (4 * (i + 1)) = y := ⟨_, rfl⟩
      obtain ⟨x, hx⟩ : ∃ x, Sgn.dg d i = x := ⟨_, rfl⟩
      rw [hy] at hn hs ⊢
      rw [hy2] at hs
      rw [hx] at hn hd15
      have HY := Lib.hid hy2
      have hnt : (num y).tmod 16 = (x : Int) := by rw [Int.tmod_eq_emod_of_nonneg (num_nonneg y)]; exact hn
      have hst : (num y).tdiv 16 = num y2 := by rw [Int.tdiv_eq_ediv_of_nonneg (num_nonneg y)]; exact hs
      have HX : Hid (Sgn.lack d (i + 1) = Sgn.lack d i + (15 - x)) := by show _ = _; rw [← hx]; rfl
      have HX2 := Lib.hid hx
      obtain ⟨lk, hlk2⟩ : ∃ k, Sgn.lack d i = k := ⟨_, rfl⟩
      rw [hlk2] at hlk HX ⊢
      have hfi : wr.frozen? ⟨b3, i, none⟩ = false := hci.2
      have hvi := hci.1
      clear hy hy2 hx hlk2 hci
      go_wp2_with fail
      refine ⟨⟨i + 1, by omega, by go_num, by rw [HX.out]; congr 1; omega, by rw [HY.out], hB.setCell (by simp <;> omega) _, (hA.set i (by omega) _).congr fun j _ => ?_, hR.other (by simp <;> omega) _⟩, by simp [intOf]; omega⟩
      by_cases hji : j = i
      · subst hji; simp [HX2.out]
      · by_cases h2 : j < i
        · simp [hji, h2, show j < i + 1 by omega]
        · simp [hji, h2, show ¬ j < i + 1 by omega]
    · obtain rfl : i = 16 := by omega
      rw [show ((16 : Nat) : Int) = 16 from rfl]
      have c16 : wr.cell? ⟨b3, 16, none⟩ = some (.int .i64 0) := (hA 16 (by omega)).1
      have c17 : wr.cell? ⟨b3, 17, none⟩ = some (.int .i64 0) := (hA 17 (by omega)).1
      have f16 := (hA 16 (by omega)).2
      have f17 := (hA 17 (by omega)).2
      have e16 := Sgn.dig_16 d
      have e17 := Sgn.dig_17 d
      obtain ⟨m, hm⟩ : ∃ m, Sgn.lack d 16 = m := ⟨_, rfl⟩
      obtain ⟨m1, hm1⟩ : ∃ k, m % 16 = k := ⟨_, rfl⟩
      obtain ⟨m2, hm2⟩ : ∃ k, m / 16 = k := ⟨_, rfl⟩
      have hmod : (m : Int) % 16 = (m1 : Int) := by omega
      have hmodt : (m : Int).tmod 16 = (m1 : Int) := by rw [Int.tmod_eq_emod_of_nonneg (by omega)]; omega
      have hdiv : (m : Int) / 16 = (m2 : Int) := by omega
      have hdivt : (m : Int).tdiv 16 = (m2 : Int) := by rw [Int.tdiv_eq_ediv_of_nonneg (by omega)]; omega
      rw [hm] at e16 e17 hlk ⊢
      rw [hm1] at e16
      rw [hm2] at e17
      have hA2 : Arr _ b3 (digV d) := ((hA.set 16 (by omega) (.int .i64 (m1 : Int))).set 17 (by omega) (.int .i64 (m2 : Int))).congr fun j hj => by
        unfold digV
        by_cases h17 : j = 17
        · subst h17; simp [e17]
        · by_cases h16 : j = 16
          · subst h16; simp [e16]
          · rw [if_neg h17, if_neg h16, if_pos (by omega), Sgn.dig_low d j (by omega)]
      have hB2 := (hB.setCell (p := ⟨b3, 16, none⟩) (by simp <;> omega) (.int .i64 (m1 : Int))).setCell (p := ⟨b3, 17, none⟩) (by simp <;> omega) (.int .i64 (m2 : Int))
      have hR2 := (hR.other (p := ⟨b3, 16, none⟩) (by simp <;> omega) (.int .i64 (m1 : Int))).other (p := ⟨b3, 17, none⟩) (by simp <;> omega) (.int .i64 (m2 : Int))
      obtain ⟨W1, hW1⟩ : ∃ X, (wr.setCell ⟨b3, 16, none⟩ (.int .i64 (m1 : Int))).setCell ⟨b3, 17, none⟩ (.int .i64 (m2 : Int)) = X := ⟨_, rfl⟩
      rw [hW1] at hA2 hB2 hR2
      have hl1 := run_loadA (P := Try.prog) hA2 arrI_underlying arrI_size
      obtain ⟨W2, hs1, hset⟩ := run_storeA (P := Try.prog) hR2 (v := digV d) (fun _ _ => rfl) arrI_size
      have hl2 := run_loadA (P := Try.prog) hset.arr arrI_underlying arrI_size
      have hB3 := hset.below _ _ s2 hB2
      clear hm hm1 hm2 e16 e17 hA2 hB2 hR2 hA hR hB hset
      go_wp2_with (first | (refine wpList_loadA rfl _ (.tmp 3) rfl (b := b3) rfl hl1 ?_) | (refine wpList_storeA rfl rfl _ (.tmp 2) _ rfl (b := b2) rfl hs1 ?_))
      exact bodyPost_ret (v := arrA (digV d)) (results_cellA rfl rfl hl2) rfl ⟨rfl, hB3⟩
set_option maxHeartbeats 1000000 in
theorem refStep_any (i k : Int) (x : D64) (w : World) : Calls Try.prog 14 #[.int .i64 i, .int .i64 k, .int .u64 (num x)] w (NumOf (Sgn.stepS (u8z i) (u8z k) x) w) := by
  have hwi := wrap_u8z i
  have hwk := wrap_u8z k
  have HP : Hid (num (Dig.ofL (u8z i :: u8z k :: Dig.bytes x)) = num (Sgn.stepS (u8z i) (u8z k) x)) := rfl
  obtain ⟨a, ha⟩ : ∃ a, u8z i = a := ⟨_, rfl⟩
  obtain ⟨b, hb'⟩ : ∃ a, u8z k = a := ⟨_, rfl⟩
  rw [ha] at hwi HP ⊢
  rw [hb'] at hwk HP ⊢
  obtain ⟨lx, hlx⟩ : ∃ l, Dig.bytes x = l := ⟨_, rfl⟩
  have nx : lx.length = 8 := by rw [← hlx]; exact Dig.bytes_length _
  have cx := refBytes_any x
  rw [hlx] at cx HP
  have HA := Lib.hid nx
  obtain ⟨l, hl⟩ : ∃ l, [a, b] ++ lx = l := ⟨_, rfl⟩
  rw [show a :: b :: lx = l from hl] at HP
  have hown : OwnsB w.heap.size (w.alloc (.cells #[.int .u8 (a.toNat : Int), .int .u8 (b.toNat : Int)] 5)) (some ⟨w.heap.size, 0, none⟩) 2 [a, b] := OwnsB.whole w.heap.size w.heap.size w [a, b] _ rfl (Nat.le_refl _) rfl (by simp)
  have HO := Lib.hid hown
  clear hlx nx ha hb' hown
  go_enter Try.func14, Try.ntmps14
  go_wp2_with fail
  refine (cx _).mono ?_
  rintro e w1 ⟨b1, c1, rfl, y1, hb1⟩
  clear cx
  have z1 := HO.out.later hb1
  have hB := thru (al (Below.refl _ w) _) hb1
  have Y1 := Lib.hid y1
  have Z1 := Lib.hid z1
  clear hb1 y1 z1 HO
  go_wp2_with (at_builtin; refine wpList_app rfl _ _ rfl (l := [a, b]) (B := w.heap.size) Z1.out rfl (m := lx) rfl Y1.out.bts Y1.out.none_cap (by have := HA.out; simp; omega) hl hB.size ?_; intro x' cap' w3 h1 h2 _; refine Hid.out ?_)
  unfold Hid
  have y3 := h1.bts
  replace hB := hB.trans h2
  have hll : l.length ≤ 100000 := by rw [← hl]; have := HA.out; simp; omega
  clear Y1 Z1 h1 h2 hl
  go_wp2_with fail
  refine (refOf_any _ l _ _ hll y3).mono ?_
  rintro e w4 ⟨rfl, rfl⟩
  rw [HP.out]
  clear y3 hll
  go_wp2_with fail
  go_ret
  exact ⟨rfl, hB⟩
set_option maxHeartbeats 1000000 in
theorem refAdvance_any (i f t : Nat) (x : D64) (w : World) (hft : f ≤ t) (ht : t ≤ 15) : Calls Try.prog 51 #[.int .i64 (i : Int), .int .i64 (f : Int), .int .i64 (t : Int), .int .u64 (num x)] w (NumOf (Sgn.adv (UInt8.ofNat i) f (t - f) x) w) := by
  have hB := Below.refl w.heap.size w
  go_enter Try.func51, Try.ntmps51
  go_wp2_with fail
  go_loopw [3, 9] (fun u3 u9 wr => AdRel i f t x w u3 u9 wr) (fun _ u9 _ => t - (intOf u9).toNat)
  case atStart => exact ⟨0, by omega, rfl, rfl, hB⟩
  case round =>
    clear hB
    obtain ⟨n, hn, rfl, rfl, hB⟩ := hrel
    by_cases hlt : f + n < t
    · obtain ⟨k, hk⟩ : ∃ k, f + n = k := ⟨_, rfl⟩
      have HX : Hid (Sgn.adv (UInt8.ofNat i) f (n + 1) x = Sgn.stepS (UInt8.ofNat i) (UInt8.ofNat k) (Sgn.adv (UInt8.ofNat i) f n x)) := by show Sgn.stepS _ (UInt8.ofNat (f + n)) _ = _; rw [hk]
      have HK := Lib.hid hk
      obtain ⟨y, hy⟩ : ∃ y, Sgn.adv (UInt8.ofNat i) f n x = y := ⟨_, rfl⟩
      rw [hy] at HX
      rw [hk] at hlt ⊢
      rw [hy]
      have hkt : decide (k < t) = true := decide_eq_true hlt
      clear hk hy hn
      go_wp2_with fail
      refine (refStep_any (i : Int) (k : Int) y _).mono ?_
      rintro e w1 ⟨rfl, hb⟩
      rw [u8z_nat, u8z_nat, ← HX.out]
      replace hB := thru hB hb
      clear hb
      go_wp2_with fail
      refine ⟨⟨n + 1, by have := HK.out; omega, by have := HK.out; congr 1; omega, rfl, hB⟩, by simp [intOf]; omega⟩
    · have hnn : t - f = n := by omega
      have HNN := Lib.hid hnn
      obtain ⟨k, hk⟩ : ∃ k, f + n = k := ⟨_, rfl⟩
      rw [hk] at hlt ⊢
      have hkt : decide (k < t) = false := decide_eq_false hlt
      clear hk hnn
      go_wp2_with fail
      go_ret
      exact ⟨by rw [HNN.out]; rfl, hB⟩

end Go.Proofs.Ytjpicnfkmfjnoaa
