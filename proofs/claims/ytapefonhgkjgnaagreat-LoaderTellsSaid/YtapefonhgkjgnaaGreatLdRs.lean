/- Texts of the layers below, under one roof: SgnRb, SgnY, SgnZ. -/
import Derived.Laws.ResultCell
import Derived.Test.YtapefonhgkjgnaaGreatLdA
import Derived.Test.YtapefonhgkjgnaaGreatLdB
import Derived.Test.YtapefonhgkjgnaaGreatLdC
import Derived.Test.YtapefonhgkjgnaaGreatLdD
import Derived.Test.YtapefonhgkjgnaaGreatLdRd
set_option maxRecDepth 20000
namespace Go.Proofs.YtapefonhgkjgnaaGreat

section
open Go.RowKit

theorem nib_dig (d : D64) (i : Nat) : num (d >>> (4 * i)) % 16 = ((Sgn.dg d i : Nat) : Int) := by
  unfold num Sgn.dg
  omega
theorem shr4 (d : D64) (i : Nat) : num (d >>> (4 * i)) / 16 = num (d >>> (4 * (i + 1))) := by
  rw [show 4 * (i + 1) = 4 * i + 4 by omega, BitVec.shiftRight_add]
  exact shr_of _ 4
set_option maxHeartbeats 2000000 in
theorem refDigits_any (d : D64) (w : World) : Calls Tryz.prog 73 #[.int .u64 (num d)] w fun e w' => e = .returned (arrA (digV d)) ∧ Below w.heap.size w w' := by
  have hd0 : d = d >>> (4 * 0) := by simp
  obtain ⟨d0, hd⟩ : ∃ x, d = x := ⟨_, rfl⟩
  have HD : Hid (num d = num (d >>> (4 * 0))) := by show _ = _; rw [← hd0]
  go_enter Tryz.func73, Tryz.ntmps73
  go_wp2_with (refine wpList_allocTo 2 rfl rfl _ rfl arrI_zero ?_; intro X2 a2 hb hz; refine Hid.out ?_)
  unfold Hid
  try simp only [Act.put, List.setIfInBounds_toArray, List.set_cons_zero, List.set_cons_succ]
  obtain ⟨b2, hb2⟩ : ∃ a, w.heap.size = a := ⟨_, rfl⟩
  have s2 : w.heap.size ≤ b2 := by omega
  rw [hb2] at a2 hz ⊢
  clear hb2
  go_wp2_with (refine wpList_allocTo 3 rfl rfl _ rfl arrI_zero ?_; intro X3 a3 hbb hz3; refine Hid.out ?_)
  unfold Hid
  try simp only [Act.put, List.setIfInBounds_toArray, List.set_cons_zero, List.set_cons_succ]
  obtain ⟨b3, hb3⟩ : ∃ a, X2.heap.size = a := ⟨_, rfl⟩
  have s3 : b2 < b3 := by omega
  replace hb := thru hb hbb
  replace a2 := a2.later hbb
  rw [hb3] at a3 hz3 ⊢
  clear hbb hb3 hz hz3
  have A2 := a2.arr
  have A3 := a3.arr
  clear a2 a3
  go_wp2_with fail
  go_loopw [0, 4, 5] (fun u0 u4 u5 wr => ∃ i : Nat, i ≤ 16 ∧ u5 = .int .i64 (i : Int) ∧ u4 = .int .i64 ((Sgn.lack d i : Nat) : Int) ∧ u0 = .int .u64 (num (d >>> (4 * i))) ∧ Below w.heap.size w wr ∧ Arr wr b3 (fun j => if j < i then .int .i64 ((Sgn.dg d j : Nat) : Int) else .int .i64 0) ∧ Arr wr b2 (fun _ => .int .i64 0)) (fun _ _ u5 _ => 16 - (intOf u5).toNat)
  case atStart => exact ⟨0, by omega, rfl, rfl, by rw [HD.out], hb, A3, A2⟩
  case round =>
    clear hb A2 A3 hd0 hd
    obtain ⟨i, hi, rfl, rfl, rfl, hB, hA, hR⟩ := hrel
    have hlk := Sgn.lack_le d i
    by_cases hlt : i < 16
    · have hli : decide ((i : Int) < 16) = true := by simp; omega
      have hci := hA i (by omega)
      have hd15 := Sgn.dg_lt d i
      have hn := nib_dig d i
      have hs := shr4 d i
      obtain ⟨y, hy⟩ : ∃ y, d >>> (4 * i) = y := ⟨_, rfl⟩
      obtain ⟨y2, hy2⟩ : ∃ y, d >>> (4 * (i + 1)) = y := ⟨_, rfl⟩
      obtain ⟨x, hx⟩ : ∃ x, Sgn.dg d i = x := ⟨_, rfl⟩
      rw [hy] at hn hs ⊢
      rw [hy2] at hs
      rw [hx] at hn hd15
      have HY := Lib.hid hy2
      have hnt : (num y).tmod 16 = (x : Int) := by rw [Int.tmod_eq_emod_of_nonneg (num_nonneg y)]; exact hn
      have hst : (num y).tdiv 16 = num y2 := by rw [Int.tdiv_eq_ediv_of_nonneg (num_nonneg y)]; exact hs
      have HX : Hid (Sgn.lack d (i + 1) = Sgn.lack d i + (15 - x)) := by show _ = _; rw [← hx]; rfl
      have HX2 := Lib.hid hx
      obtain ⟨lk, hlk2⟩ : ∃ k, Sgn.lack d i = k := ⟨_, rfl⟩
      rw [hlk2] at hlk HX ⊢
      have hfi : wr.frozen? ⟨b3, i, none⟩ = false := hci.2
      have hvi := hci.1
      clear hy hy2 hx hlk2 hci
      go_wp2_with fail
      refine ⟨⟨i + 1, by omega, by go_num, by rw [HX.out]; congr 1; omega, by rw [HY.out], hB.setCell (by simp <;> omega) _, (hA.set i (by omega) _).congr fun j _ => ?_, hR.other (by simp <;> omega) _⟩, by simp [intOf]; omega⟩
      by_cases hji : j = i
      · subst hji; simp [HX2.out]
      · by_cases h2 : j < i
        · simp [hji, h2, show j < i + 1 by omega]
        · simp [hji, h2, show ¬ j < i + 1 by omega]
    · obtain rfl : i = 16 := by omega
      rw [show ((16 : Nat) : Int) = 16 from rfl]
      have c16 : wr.cell? ⟨b3, 16, none⟩ = some (.int .i64 0) := (hA 16 (by omega)).1
      have c17 : wr.cell? ⟨b3, 17, none⟩ = some (.int .i64 0) := (hA 17 (by omega)).1
      have f16 := (hA 16 (by omega)).2
      have f17 := (hA 17 (by omega)).2
      have e16 := Sgn.dig_16 d
      have e17 := Sgn.dig_17 d
      obtain ⟨m, hm⟩ : ∃ m, Sgn.lack d 16 = m := ⟨_, rfl⟩
      obtain ⟨m1, hm1⟩ : ∃ k, m % 16 = k := ⟨_, rfl⟩
      obtain ⟨m2, hm2⟩ : ∃ k, m / 16 = k := ⟨_, rfl⟩
      have hmod : (m : Int) % 16 = (m1 : Int) := by omega
      have hmodt : (m : Int).tmod 16 = (m1 : Int) := by rw [Int.tmod_eq_emod_of_nonneg (by omega)]; omega
      have hdiv : (m : Int) / 16 = (m2 : Int) := by omega
      have hdivt : (m : Int).tdiv 16 = (m2 : Int) := by rw [Int.tdiv_eq_ediv_of_nonneg (by omega)]; omega
      rw [hm] at e16 e17 hlk ⊢
      rw [hm1] at e16
      rw [hm2] at e17
      have hA2 : Arr _ b3 (digV d) := ((hA.set 16 (by omega) (.int .i64 (m1 : Int))).set 17 (by omega) (.int .i64 (m2 : Int))).congr fun j hj => by
        unfold digV
        by_cases h17 : j = 17
        · subst h17; simp [e17]
        · by_cases h16 : j = 16
          · subst h16; simp [e16]
          · rw [if_neg h17, if_neg h16, if_pos (by omega), Sgn.dig_low d j (by omega)]
      have hB2 := (hB.setCell (p := ⟨b3, 16, none⟩) (by simp <;> omega) (.int .i64 (m1 : Int))).setCell (p := ⟨b3, 17, none⟩) (by simp <;> omega) (.int .i64 (m2 : Int))
      have hR2 := (hR.other (p := ⟨b3, 16, none⟩) (by simp <;> omega) (.int .i64 (m1 : Int))).other (p := ⟨b3, 17, none⟩) (by simp <;> omega) (.int .i64 (m2 : Int))
      obtain ⟨W1, hW1⟩ : ∃ X, (wr.setCell ⟨b3, 16, none⟩ (.int .i64 (m1 : Int))).setCell ⟨b3, 17, none⟩ (.int .i64 (m2 : Int)) = X := ⟨_, rfl⟩
      rw [hW1] at hA2 hB2 hR2
      have hl1 := run_loadA (P := Tryz.prog) hA2 arrI_underlying arrI_size
      obtain ⟨W2, hs1, hset⟩ := run_storeA (P := Tryz.prog) hR2 (v := digV d) (fun _ _ => rfl) arrI_size
      have hl2 := run_loadA (P := Tryz.prog) hset.arr arrI_underlying arrI_size
      have hB3 := hset.below _ _ s2 hB2
      clear hm hm1 hm2 e16 e17 hA2 hB2 hR2 hA hR hB hset
      go_wp2_with (first | (refine wpList_loadA rfl _ (.tmp 3) rfl (b := b3) rfl hl1 ?_) | (refine wpList_storeA rfl rfl _ (.tmp 2) _ rfl (b := b2) rfl hs1 ?_))
      exact bodyPost_ret (v := arrA (digV d)) (results_cellA rfl rfl hl2) rfl ⟨rfl, hB3⟩
set_option maxHeartbeats 1000000 in
theorem refStep_any (i k : Int) (x : D64) (w : World) : Calls Tryz.prog 94 #[.int .i64 i, .int .i64 k, .int .u64 (num x)] w (NumOf (Sgn.stepS (u8z i) (u8z k) x) w) := by
  have hwi := wrap_u8z i
  have hwk := wrap_u8z k
  have HP : Hid (num (Dig.ofL (u8z i :: u8z k :: Dig.bytes x)) = num (Sgn.stepS (u8z i) (u8z k) x)) := rfl
  obtain ⟨a, ha⟩ : ∃ a, u8z i = a := ⟨_, rfl⟩
  obtain ⟨b, hb'⟩ : ∃ a, u8z k = a := ⟨_, rfl⟩
  rw [ha] at hwi HP ⊢
  rw [hb'] at hwk HP ⊢
  obtain ⟨lx, hlx⟩ : ∃ l, Dig.bytes x = l := ⟨_, rfl⟩
  have nx : lx.length = 8 := by rw [← hlx]; exact Dig.bytes_length _
  have cx := refBytes_any x
  rw [hlx] at cx HP
  have HA := Lib.hid nx
  obtain ⟨l, hl⟩ : ∃ l, [a, b] ++ lx = l := ⟨_, rfl⟩
  rw [show a :: b :: lx = l from hl] at HP
  have hown : OwnsB w.heap.size (w.alloc (.cells #[.int .u8 (a.toNat : Int), .int .u8 (b.toNat : Int)] 5)) (some ⟨w.heap.size, 0, none⟩) 2 [a, b] := OwnsB.whole w.heap.size w.heap.size w [a, b] _ rfl (Nat.le_refl _) rfl (by simp)
  have HO := Lib.hid hown
  clear hlx nx ha hb' hown
  go_enter Tryz.func94, Tryz.ntmps94
  go_wp2_with fail
  refine (cx _).mono ?_
  rintro e w1 ⟨b1, c1, rfl, y1, hb1⟩
  clear cx
  have z1 := HO.out.later hb1
  have hB := thru (al (Below.refl _ w) _) hb1
  have Y1 := Lib.hid y1
  have Z1 := Lib.hid z1
  clear hb1 y1 z1 HO
  go_wp2_with (at_builtin; refine wpList_app rfl _ _ rfl (l := [a, b]) (B := w.heap.size) Z1.out rfl (m := lx) rfl Y1.out.bts Y1.out.none_cap (by have := HA.out; simp; omega) hl hB.size ?_; intro x' cap' w3 h1 h2 _; refine Hid.out ?_)
  unfold Hid
  have y3 := h1.bts
  replace hB := hB.trans h2
  have hll : l.length ≤ 100000 := by rw [← hl]; have := HA.out; simp; omega
  clear Y1 Z1 h1 h2 hl
  go_wp2_with fail
  refine (refOf_any _ l _ _ hll y3).mono ?_
  rintro e w4 ⟨rfl, rfl⟩
  rw [HP.out]
  clear y3 hll
  go_wp2_with fail
  go_ret
  exact ⟨rfl, hB⟩
set_option maxHeartbeats 1000000 in
theorem refAdvance_any (i f t : Nat) (x : D64) (w : World) (hft : f ≤ t) (ht : t ≤ 15) : Calls Tryz.prog 74 #[.int .i64 (i : Int), .int .i64 (f : Int), .int .i64 (t : Int), .int .u64 (num x)] w (NumOf (Sgn.adv (UInt8.ofNat i) f (t - f) x) w) := by
  have hB := Below.refl w.heap.size w
  go_enter Tryz.func74, Tryz.ntmps74
  go_wp2_with fail
  go_loopw [3, 9] (fun u3 u9 wr => AdRel i f t x w u3 u9 wr) (fun _ u9 _ => t - (intOf u9).toNat)
  case atStart => exact ⟨0, by omega, rfl, rfl, hB⟩
  case round =>
    clear hB
    obtain ⟨n, hn, rfl, rfl, hB⟩ := hrel
    by_cases hlt : f + n < t
    · obtain ⟨k, hk⟩ : ∃ k, f + n = k := ⟨_, rfl⟩
      have HX : Hid (Sgn.adv (UInt8.ofNat i) f (n + 1) x = Sgn.stepS (UInt8.ofNat i) (UInt8.ofNat k) (Sgn.adv (UInt8.ofNat i) f n x)) := by show Sgn.stepS _ (UInt8.ofNat (f + n)) _ = _; rw [hk]
      have HK := Lib.hid hk
      obtain ⟨y, hy⟩ : ∃ y, Sgn.adv (UInt8.ofNat i) f n x = y := ⟨_, rfl⟩
      rw [hy] at HX
      rw [hk] at hlt ⊢
      rw [hy]
      have hkt : decide (k < t) = true := decide_eq_true hlt
      clear hk hy hn
      go_wp2_with fail
      refine (refStep_any (i : Int) (k : Int) y _).mono ?_
      rintro e w1 ⟨rfl, hb⟩
      rw [u8z_nat, u8z_nat, ← HX.out]
      replace hB := thru hB hb
      clear hb
      go_wp2_with fail
      refine ⟨⟨n + 1, by have := HK.out; omega, by have := HK.out; congr 1; omega, rfl, hB⟩, by simp [intOf]; omega⟩
    · have hnn : t - f = n := by omega
      have HNN := Lib.hid hnn
      obtain ⟨k, hk⟩ : ∃ k, f + n = k := ⟨_, rfl⟩
      rw [hk] at hlt ⊢
      have hkt : decide (k < t) = false := decide_eq_false hlt
      clear hk hnn
      go_wp2_with fail
      go_ret
      exact ⟨by rw [HNN.out]; rfl, hB⟩
end

section
open Go.RowKit

end

section
open Go.RowKit

theorem refValid6_any (h q : Int) (w : World) : Calls Tryz.prog 59 #[.int .i64 h, .int .i64 q] w fun e w' => e = .returned (.bool (vldG h q)) ∧ w' = w := by
  by_cases h0 : h < 0
  · have hv : vldG h q = false := by unfold vldG; exact decide_eq_false (by omega)
    have d0 : decide (h < 0) = true := decide_eq_true h0
    have HV := Lib.hid hv
    rw [hv]
    clear hv h0
    go_enter Tryz.func59, Tryz.ntmps59
    go_wp2_with fail
    go_ret
    exact ⟨rfl, rfl⟩
  · by_cases h6 : 6 < h
    · have hv : vldG h q = false := by unfold vldG; exact decide_eq_false (by omega)
      have d0 : decide (h < 0) = false := decide_eq_false h0
      have d6 : decide (6 < h) = true := decide_eq_true h6
      rw [hv]
      clear hv h0 h6
      go_enter Tryz.func59, Tryz.ntmps59
      go_wp2_with fail
      go_ret
      exact ⟨rfl, rfl⟩
    · obtain ⟨n, rfl⟩ : ∃ n : Nat, h = (n : Int) := ⟨h.toNat, by omega⟩
      have hn6 : n ≤ 6 := by omega
      have hv : vldG (n : Int) q = (decide (0 ≤ q) && decide (q < ((2 ^ n : Nat) : Int))) := by
        unfold vldG
        rw [Int.toNat_natCast]
        have e : ((2 ^ n : Nat) : Int) = (2 : Int) ^ n := by simp
        rw [e, Bool.eq_iff_iff]
        simp only [Bool.and_eq_true, decide_eq_true_eq]
        constructor
        · rintro ⟨_, _, a, b⟩; exact ⟨a, b⟩
        · rintro ⟨a, b⟩; exact ⟨by omega, by omega, a, b⟩
      have HV := Lib.hid hv
      have d0 : decide ((n : Int) < 0) = false := decide_eq_false h0
      have d6 : decide ((6 : Int) < (n : Int)) = false := decide_eq_false h6
      clear h0 h6 hv
      go_enter Tryz.func59, Tryz.ntmps59
      go_wp2_with fail
      go_loopw [5, 6] (fun u5 u6 wr => ∃ i : Nat, i ≤ n ∧ u6 = .int .i64 (i : Int) ∧ u5 = .int .i64 ((2 ^ i : Nat) : Int) ∧ wr = w) (fun _ u6 _ => n - (intOf u6).toNat)
      case atStart => exact ⟨0, by omega, rfl, rfl, rfl⟩
      case round =>
        obtain ⟨i, hi, rfl, rfl, rfl⟩ := hrel
        have hp64 : 2 ^ i ≤ 64 := Nat.pow_le_pow_right (n := 2) (by decide) (show i ≤ 6 by omega)
        by_cases hlt : i < n
        · have hd : decide (i < n) = true := decide_eq_true hlt
          have hs : 2 ^ (i + 1) = 2 * 2 ^ i := by rw [Nat.pow_succ, Nat.mul_comm]
          obtain ⟨p, hp⟩ : ∃ p, 2 ^ i = p := ⟨_, rfl⟩
          rw [hp] at hp64 hs ⊢
          have HS := Lib.hid hs
          clear hp hs
          go_wp2_with fail
          exact ⟨⟨i + 1, by omega, by go_num, by rw [HS.out]; congr 1, trivial⟩, by simp [intOf]; omega⟩
        · obtain rfl : i = n := by omega
          have hd : decide (i < i) = false := decide_eq_false hlt
          obtain ⟨p, hp⟩ : ∃ p, 2 ^ i = p := ⟨_, rfl⟩
          rw [hp] at hp64 HV ⊢
          clear hp
          by_cases hq0 : 0 ≤ q
          · by_cases hqp : q < (p : Int)
            · have e0 : decide (0 ≤ q) = true := decide_eq_true hq0
              have e1 : decide (q < (p : Int)) = true := decide_eq_true hqp
              have HV2 : Hid (vldG (i : Int) q = true) := by show _ = _; rw [HV.out, e0, e1]; rfl
              clear hq0 hqp HV
              go_wp2_with fail
              go_ret
              exact ⟨by rw [HV2.out]; rfl, rfl⟩
            · have e0 : decide (0 ≤ q) = true := decide_eq_true hq0
              have e1 : decide (q < (p : Int)) = false := decide_eq_false hqp
              have HV2 : Hid (vldG (i : Int) q = false) := by show _ = _; rw [HV.out, e0, e1]; rfl
              clear hq0 hqp HV
              go_wp2_with fail
              go_ret
              exact ⟨by rw [HV2.out]; rfl, rfl⟩
          · have e0 : decide (0 ≤ q) = false := decide_eq_false hq0
            have HV2 : Hid (vldG (i : Int) q = false) := by show _ = _; rw [HV.out, e0]; rfl
            clear hq0 HV
            go_wp2_with fail
            go_ret
            exact ⟨by rw [HV2.out]; rfl, rfl⟩
end

section
open Go.RowKit

end

section
open Go.RowKit

/-- A signer that was made. -/
structure Sgr (W : World) (b : Nat) (seed : D64) (h : Nat) (r : D64) (n : Nat) : Prop where
  c0 : W.cell? ⟨b, 0, none⟩ = some (.int .u64 (num seed))
  c1 : W.cell? ⟨b, 1, none⟩ = some (.int .i64 (h : Int))
  c2 : W.cell? ⟨b, 2, none⟩ = some (.int .u64 (num r))
  c3 : W.cell? ⟨b, 3, none⟩ = some (.int .i64 (n : Int))
  c4 : W.cell? ⟨b, 4, none⟩ = some (.bool true)
  f3 : W.frozen? ⟨b, 3, none⟩ = false
section
variable {P : Program} {ops : Array Oper} {o : Oper} {a : Act} {w : World} {Q : Exit → Act → World → Prop}
end
end

section
open Go.RowKit

theorem sig_set {W : World} {b : Nat} {key : Int} {f : Nat → D64} {x : Option Addr} {n c : Nat} (g : Blk W b 0 20 (sigV key f x n c)) (i : Nat) (hi : i < 18) (v : D64) : Blk (W.setCell ⟨b, 1 + i, none⟩ (.int .u64 (num v))) b 0 20 (sigV key (fun k => if k = i then v else f k) x n c) := by
  intro j hj
  rw [Nat.zero_add]
  refine ⟨?_, by rw [World.frozen?_setCell]; exact (g.at j hj).2⟩
  by_cases h1 : j = 1 + i
  · subst h1
    rw [World.cell?_setCell_same' _ _ _ (by rw [(g.at (1 + i) (by omega)).1]; rfl)]
    unfold sigV
    rw [if_neg (by omega), if_pos (by omega), Nat.add_sub_cancel_left]
    simp
  · rw [World.cell?_setCell_other _ _ _ _ (by simp <;> omega), (g.at j hj).1]
    unfold sigV
    by_cases h0 : j = 0
    · rw [if_pos h0, if_pos h0]
    · rw [if_neg h0, if_neg h0]
      by_cases h19 : j < 19
      · rw [if_pos h19, if_pos h19]
        dsimp only
        rw [if_neg (by omega)]
      · rw [if_neg h19, if_neg h19]
end

section
open Go.RowKit

theorem mul256 (x : D64) : IntKind.u64.wrap (256 * num x) = num (256#64 * x) := by
  unfold num
  rw [wrap64u, BitVec.toNat_mul]
  show (256 * (x.toNat : Int)) % 18446744073709551616 = ((256 % 2 ^ 64 * x.toNat % 2 ^ 64 : Nat) : Int)
  omega
theorem add_byte (x : D64) (v : UInt8) : IntKind.u64.wrap (num x + (v.toNat : Int)) = num (x + Dig.ofB v) := by
  rw [u8_num v, u64_add]
set_option maxHeartbeats 1000000 in
theorem refword_any (t : Nat) (l : List UInt8) (x : Option Addr) (c : Nat) (w : World) (hx : Bts w x l) (hi : t + 8 ≤ l.length ∧ t ≤ 250) :
    Calls Tryz.prog 67 #[.slice x l.length c, .int .i64 (t : Int)] w (NumOf (Sgn.wd l t 8) w) := by
  obtain ⟨g, o, rfl, hc⟩ := hx.at (by omega)
  have HC := Lib.hid hc
  obtain ⟨n, hn⟩ : ∃ n, l.length = n := ⟨_, rfl⟩
  have HN := Lib.hid hn
  rw [hn] at hi ⊢
  clear hx hn hc
  go_enter Tryz.func67, Tryz.ntmps67
  go_wp2_with fail
  go_loopw [5, 6] (fun u5 u6 wr => ∃ j : Nat, j ≤ 8 ∧ u6 = .int .i64 ((j : Int) - 1) ∧ u5 = .int .u64 (num (Sgn.wd l (t + j) (8 - j))) ∧ wr = w) (fun _ u6 _ => (intOf u6 + 1).toNat)
  case atStart => exact ⟨8, by omega, rfl, rfl, rfl⟩
  case round =>
    obtain ⟨j, hj, rfl, rfl, rfl⟩ := hrel
    by_cases h0 : j = 0
    · subst h0
      rw [show ((0 : Nat) : Int) - 1 = -1 from rfl, Nat.add_zero, Nat.sub_zero]
      go_wp2_with fail
      go_ret
      exact ⟨rfl, Below.refl _ _⟩
    · obtain ⟨i, hij⟩ : ∃ i, j = i + 1 := ⟨j - 1, by omega⟩
      subst hij
      rw [show ((i + 1 : Nat) : Int) - 1 = (i : Int) by omega]
      have hki : decide ((0 : Int) ≤ (i : Int)) = true := decide_eq_true (by omega)
      obtain ⟨m, hm⟩ : ∃ m, t + i = m := ⟨_, rfl⟩
      have hmI : (t : Int) + (i : Int) = (m : Int) := by omega
      have hmn : m < n := by omega
      have kc := HC.out m (by have := HN.out; omega)
      have hsn : Sgn.wd l m (8 - i) = 256#64 * Sgn.wd l (t + (i + 1)) (8 - (i + 1)) + Dig.ofB (l.getD m 0) := by
        rw [Sgn.horner, show 8 - i = (8 - (i + 1)) + 1 by omega, show t + (i + 1) = m + 1 by omega]
        rfl
      obtain ⟨v, hv⟩ : ∃ v, l.getD m 0 = v := ⟨_, rfl⟩
      rw [hv] at kc hsn
      obtain ⟨q, hq⟩ : ∃ q, Sgn.wd l (t + (i + 1)) (8 - (i + 1)) = q := ⟨_, rfl⟩
      rw [hq] at hsn ⊢
      have h256 := mul256 q
      have hadd := add_byte (256#64 * q) v
      obtain ⟨y, hy⟩ : ∃ y, 256#64 * q = y := ⟨_, rfl⟩
      rw [hy] at h256 hadd hsn
      obtain ⟨z, hz⟩ : ∃ z, y + Dig.ofB v = z := ⟨_, rfl⟩
      rw [hz] at hadd hsn
      have hwv : IntKind.u64.wrap (v.toNat : Int) = (v.toNat : Int) := by have := v.toNat_lt; rw [wrap64u]; omega
      have HS := Lib.hid hsn
      have HM := Lib.hid hm
      have hi8 : i ≤ 7 := by omega
      clear hm hv hy hz hq hsn h0 hj
      go_wp2_with fail
      exact ⟨⟨i, by omega, rfl, by rw [HM.out, HS.out], trivial⟩, by simp [intOf] <;> omega⟩
set_option maxRecDepth 20000 in
set_option maxHeartbeats 400000 in
theorem refDecode_no (x : Option Addr) (l : List UInt8) (c : Nat) (w : World) (hx : Bts w x l) (hn : decN l = false) : Calls Tryz.prog 35 #[.slice x l.length c] w fun e w' => e = .returned (.tuple #[aggN 20 zeroS, .int .i64 60]) ∧ Below w.heap.size w w' := by
  go_enter Tryz.func35, Tryz.ntmps35
  go_wp2_with (refine wpList_allocTo 2 rfl rfl _ rfl sig_zero ?_; intro X a_b hb0 hz0; refine Hid.out ?_)
  unfold Hid
  try simp only [Act.put, List.setIfInBounds_toArray, List.set_cons_zero, List.set_cons_succ]
  obtain ⟨a, ea⟩ : ∃ a, w.heap.size = a := ⟨_, rfl⟩
  have s_a : w.heap.size ≤ a := by omega
  have hB := hb0
  have hx1 : Bts X x l := hx.later hb0
  rw [ea] at a_b hz0 ⊢
  clear hb0 ea hx
  by_cases h2 : l.length < 146
  · have hd : decide ((l.length : Int) < 146) = true := by simp; omega
    have hd2 : decide (l.length < 146) = true := decide_eq_true h2
    obtain ⟨n, hnn⟩ : ∃ n, l.length = n := ⟨_, rfl⟩
    rw [hnn] at hd hd2 ⊢
    clear hn hx1 h2 hnn
    go_wp2_with fail
    refine wp_region_sched (fun W => True ∧ Below X.heap.size X W) (.one [0, 1, 2, 3, 4, 5, 6, 7, 8, 9, 10, 11] 12 (.done [13, 14, 15, 16, 17, 18, 19, 20, 21, 22, 23, 24, 25])) (by kernel_rfl) (by kernel_rfl) (fun _ _ _ _ _ h => h) ⟨trivial, (Below.refl _ X).drew⟩ ?_
    rintro V ⟨-, hXW⟩
    rw [wpSched]
    simp only [pick, List.map_cons, List.map_nil, Array.getD_eq_getD_getElem?, List.getElem?_toArray, List.getElem?_cons_succ, List.getElem?_cons_zero, Option.getD_some]
    repeat (first | go_big_quiet_step (fail) | quiet_step (fail))
    refine wpQuiet_nil ?_
    refine heavy_skip (by rfl) ?_
    try simp only [Act.put, List.setIfInBounds_toArray, List.set_cons_zero, List.set_cons_succ]
    rw [wpSched]
    simp only [pick, List.map_cons, List.map_nil, Array.getD_eq_getD_getElem?, List.getElem?_toArray, List.getElem?_cons_succ, List.getElem?_cons_zero, Option.getD_some]
    repeat (first | go_big_quiet_step (fail) | quiet_step (fail))
    refine wpQuiet_nil ?_
    go_wp2_with (refine wpList_storeB rfl rfl _ (.tmp 2) _ rfl (b := a) (q := 0) rfl (n := 20) (v := zeroS) rfl (a_b.later hXW) (fun j _ => sig_one _ _ _ _ _ j) sig_size ?_; intro Y1 t1; refine Hid.out ?_)
    unfold Hid
    replace hB := t1.below w.heap.size w (by omega) (thru hB hXW)
    have l1 := run_loadS t1.blk
    clear t1 a_b hXW
    go_wp2_with fail
    refine bodyPost_ret (v := .tuple #[aggN 20 zeroS, .int .i64 60]) ?_ rfl ⟨rfl, hB⟩
    rw [results_cell_tmp rfl]
    simp [asAddr, Result.andThen]
    rw [l1]
  · have hd : decide ((l.length : Int) < 146) = false := by simp; omega
    obtain ⟨g, o, rfl, hc⟩ := hx1.at (by omega)
    have k0 := hc 0 (by omega)
    have k1 := hc 1 (by omega)
    rw [Nat.add_zero] at k0
    have hv2 := refValid6_any ((l.getD 1 0).toNat : Int) ((l.getD 0 0).toNat : Int)
    have hl : l.length = 146 + 8 * (l.getD 1 0).toNat → vldG ((l.getD 1 0).toNat : Int) ((l.getD 0 0).toNat : Int) = false := fun h => by
      cases hv : vldG ((l.getD 1 0).toNat : Int) ((l.getD 0 0).toNat : Int) with
      | false => rfl
      | true =>
        unfold decN at hn
        rw [hv, decide_eq_true h, decide_eq_true (by omega)] at hn
        cases hn
    obtain ⟨l0, e0⟩ : ∃ b, l.getD 0 0 = b := ⟨_, rfl⟩
    obtain ⟨l1, e1⟩ : ∃ b, l.getD 1 0 = b := ⟨_, rfl⟩
    obtain ⟨n, hnn⟩ : ∃ n, l.length = n := ⟨_, rfl⟩
    have hd2 : decide (l.length < 146) = false := decide_eq_false h2
    rw [hnn] at hd hd2 hl h2 ⊢
    rw [e0] at k0 hv2 hl
    rw [e1] at k1 hv2 hl
    have hl0 : l0.toNat < 256 := l0.toNat_lt
    have hl256 : l1.toNat < 256 := l1.toNat_lt
    obtain ⟨m, hm⟩ : ∃ m, l1.toNat = m := ⟨_, rfl⟩
    rw [hm] at k1 hv2 hl hl256
    cases hv : vldG (m : Int) (l0.toNat : Int) with
    | false =>
      rw [hv] at hv2
      have HV := hv2
      clear hn hc hx1 hnn e0 e1 hl hv hv2 hm
      go_wp2_with fail
      refine wp_region_sched (fun W => True ∧ W.cell? ⟨g, o, none⟩ = some (.int .u8 (l0.toNat : Int)) ∧ W.cell? ⟨g, o + 1, none⟩ = some (.int .u8 (m : Int)) ∧ Below X.heap.size X W) (.one [0, 1, 2, 3, 4, 5, 6, 7, 8, 9, 10, 11] 12 (.done [13, 14, 15, 16, 17, 18, 19, 20, 21, 22, 23, 24, 25])) (by kernel_rfl) (by kernel_rfl) (fun _ _ _ _ _ h => h) ⟨trivial, (by go_simp), (by go_simp), (Below.refl _ X).drew⟩ ?_
      clear k0 k1
      rintro V ⟨-, k0, k1, hXW⟩
      rw [wpSched]
      simp only [pick, List.map_cons, List.map_nil, Array.getD_eq_getD_getElem?, List.getElem?_toArray, List.getElem?_cons_succ, List.getElem?_cons_zero, Option.getD_some]
      have kk0 := plusW_cell k0
      have kk1 := plusW_cell k1
      repeat (first | go_big_quiet_step (fail) | quiet_step (fail))
      refine wpQuiet_nil ?_
      refine heavy_want (by rfl) (fun K' hK' => ?_)
      go_simp
      refine (HV _).mono ?_
      rintro e V1 ⟨rfl, hw⟩
      obtain rfl : V = V1 := hw.symm
      refine hK' _ _ (Below.refl _ _) ?_
      clear hK' K' HV hw
      try simp only [Act.put, List.setIfInBounds_toArray, List.set_cons_zero, List.set_cons_succ]
      rw [wpSched]
      simp only [pick, List.map_cons, List.map_nil, Array.getD_eq_getD_getElem?, List.getElem?_toArray, List.getElem?_cons_succ, List.getElem?_cons_zero, Option.getD_some]
      repeat (first | go_big_quiet_step (fail) | quiet_step (fail))
      refine wpQuiet_nil ?_
      clear kk0 kk1
      go_wp2_with (refine wpList_storeB rfl rfl _ (.tmp 2) _ rfl (b := a) (q := 0) rfl (n := 20) (v := zeroS) rfl (a_b.later hXW) (fun j _ => sig_one _ _ _ _ _ j) sig_size ?_; intro Y1 t1; refine Hid.out ?_)
      unfold Hid
      replace hB := t1.below w.heap.size w (by omega) (thru hB hXW)
      have l1 := run_loadS t1.blk
      clear t1 a_b hXW
      go_wp2_with fail
      refine bodyPost_ret (v := .tuple #[aggN 20 zeroS, .int .i64 60]) ?_ rfl ⟨rfl, hB⟩
      rw [results_cell_tmp rfl]
      simp [asAddr, Result.andThen]
      rw [l1]
    | true =>
      rw [hv] at hv2
      have HV := hv2
      have hne : ¬ n = 146 + 8 * m := fun h => by rw [hl h] at hv; cases hv
      have h3 : ((n : Int) == 146 + 8 * (m : Int)) = false := by
        rw [beq_eq_false_iff_ne]
        omega
      clear hn hc hx1 hnn e0 e1 hl hv hv2 hm
      go_wp2_with fail
      refine wp_region_sched (fun W => True ∧ W.cell? ⟨g, o, none⟩ = some (.int .u8 (l0.toNat : Int)) ∧ W.cell? ⟨g, o + 1, none⟩ = some (.int .u8 (m : Int)) ∧ Below X.heap.size X W) (.one [0, 1, 2, 3, 4, 5, 6, 7, 8, 9, 10, 11] 12 (.done [13, 14, 15, 16, 17, 18, 19, 20, 21, 22, 23, 24, 25])) (by kernel_rfl) (by kernel_rfl) (fun _ _ _ _ _ h => h) ⟨trivial, (by go_simp), (by go_simp), (Below.refl _ X).drew⟩ ?_
      clear k0 k1
      rintro V ⟨-, k0, k1, hXW⟩
      rw [wpSched]
      simp only [pick, List.map_cons, List.map_nil, Array.getD_eq_getD_getElem?, List.getElem?_toArray, List.getElem?_cons_succ, List.getElem?_cons_zero, Option.getD_some]
      have kk0 := plusW_cell k0
      have kk1 := plusW_cell k1
      repeat (first | go_big_quiet_step (fail) | quiet_step (fail))
      refine wpQuiet_nil ?_
      refine heavy_want (by rfl) (fun K' hK' => ?_)
      go_simp
      refine (HV _).mono ?_
      rintro e V1 ⟨rfl, hw⟩
      obtain rfl : V = V1 := hw.symm
      refine hK' _ _ (Below.refl _ _) ?_
      clear hK' K' HV hw
      try simp only [Act.put, List.setIfInBounds_toArray, List.set_cons_zero, List.set_cons_succ]
      rw [wpSched]
      simp only [pick, List.map_cons, List.map_nil, Array.getD_eq_getD_getElem?, List.getElem?_toArray, List.getElem?_cons_succ, List.getElem?_cons_zero, Option.getD_some]
      repeat (first | go_big_quiet_step (fail) | quiet_step (fail))
      refine wpQuiet_nil ?_
      clear kk0 kk1
      go_wp2_with (refine wpList_storeB rfl rfl _ (.tmp 2) _ rfl (b := a) (q := 0) rfl (n := 20) (v := zeroS) rfl (a_b.later hXW) (fun j _ => sig_one _ _ _ _ _ j) sig_size ?_; intro Y1 t1; refine Hid.out ?_)
      unfold Hid
      replace hB := t1.below w.heap.size w (by omega) (thru hB hXW)
      have l1 := run_loadS t1.blk
      clear t1 a_b hXW
      go_wp2_with fail
      refine bodyPost_ret (v := .tuple #[aggN 20 zeroS, .int .i64 60]) ?_ rfl ⟨rfl, hB⟩
      rw [results_cell_tmp rfl]
      simp [asAddr, Result.andThen]
      rw [l1]
end

section
open Go.RowKit

set_option maxRecDepth 20000 in
set_option maxHeartbeats 4000000 in
theorem refDecode_ok (x : Option Addr) (l : List UInt8) (c : Nat) (w : World) (hx : Bts w x l) (hv : vldG ((l.getD 1 0).toNat : Int) ((l.getD 0 0).toNat : Int) = true) (hl : l.length = 146 + 8 * (l.getD 1 0).toNat) :
    Calls Tryz.prog 35 #[.slice x l.length c] w fun e w' => ∃ y cy, e = .returned (.tuple #[aggN 20 (sigV ((l.getD 0 0).toNat : Int) (fun i => Sgn.wd l (2 + 8 * i) 8) y (l.getD 1 0).toNat cy), .int .i64 0]) ∧ OwnsW w.heap.size w' y cy (Sgn.wds l (l.getD 1 0).toNat) ∧ Below w.heap.size w w' := by
  have h2 : ¬ l.length < 146 := by omega
  have hd2 : decide (l.length < 146) = false := decide_eq_false h2
  have hv2 := refValid6_any ((l.getD 1 0).toNat : Int) ((l.getD 0 0).toNat : Int)
  rw [hv] at hv2
  have h6 : (l.getD 1 0).toNat ≤ 6 := by
    unfold vldG at hv
    have := of_decide_eq_true hv
    omega
  obtain ⟨l0, e0⟩ : ∃ b, l.getD 0 0 = b := ⟨_, rfl⟩
  obtain ⟨l1, e1⟩ : ∃ b, l.getD 1 0 = b := ⟨_, rfl⟩
  rw [e0] at hv2 ⊢
  rw [e1] at hv2 hl h6 ⊢
  have HE0 := Lib.hid e0
  have HE1 := Lib.hid e1
  have hl0 : l0.toNat < 256 := l0.toNat_lt
  obtain ⟨m, hm⟩ : ∃ m, l1.toNat = m := ⟨_, rfl⟩
  have HM := Lib.hid hm
  rw [hm] at hl h6 hv2 ⊢
  have HLEN := Lib.hid hl
  obtain ⟨F, hF⟩ : ∃ F, (fun i => Sgn.wd l (2 + 8 * i) 8) = F := ⟨_, rfl⟩
  rw [hF]
  have HF := Lib.hid hF
  clear hv hm e0 e1 hl hF
  go_enter Tryz.func35, Tryz.ntmps35
  go_wp2_with (refine wpList_allocTo 2 rfl rfl _ rfl sig_zero ?_; intro X a_b hb0 hz0; refine Hid.out ?_)
  unfold Hid
  try simp only [Act.put, List.setIfInBounds_toArray, List.set_cons_zero, List.set_cons_succ]
  obtain ⟨a, ea⟩ : ∃ a, w.heap.size = a := ⟨_, rfl⟩
  have s_a : w.heap.size ≤ a := by omega
  have hB := hb0
  have hx1 : Bts X x l := hx.later hb0
  rw [ea] at a_b hz0 ⊢
  clear hb0 ea hx
  obtain ⟨g, o, rfl, hc⟩ := hx1.at (by omega)
  have k0 := hc 0 (by omega)
  have k1 := hc 1 (by omega)
  rw [Nat.add_zero, HE0.out] at k0
  rw [HE1.out, HM.out] at k1
  have hxg : ∀ y, (some ⟨g, o, none⟩ : Option Addr) = some y → y.block < X.heap.size := fun y hy => by cases hy; exact World.block_lt_of_cell? _ _ k0
  obtain ⟨n, hnn⟩ : ∃ n, l.length = n := ⟨_, rfl⟩
  have HNN := Lib.hid hnn
  rw [hnn] at h2 hd2 ⊢
  have hl : n = 146 + 8 * m := by rw [← hnn]; exact HLEN.out
  have hd : decide ((n : Int) < 146) = false := by simp; omega
  have hnI : ((n : Int) != 146 + 8 * (m : Int)) = false := by
    rw [bne_eq_false_iff_eq]
    omega
  have HV := hv2
  have HY := Lib.hid hx1
  have HXG := Lib.hid hxg
  have HLN0 := Lib.hid hl
  clear hv2 hc hx1 hnn hxg hl
  go_wp2_with fail
  refine wp_region_sched (fun W => True ∧ W.cell? ⟨g, o, none⟩ = some (.int .u8 (l0.toNat : Int)) ∧ W.cell? ⟨g, o + 1, none⟩ = some (.int .u8 (m : Int)) ∧ Below X.heap.size X W) (.one [0, 1, 2, 3, 4, 5, 6, 7, 8, 9, 10, 11] 12 (.done [13, 14, 15, 16, 17, 18, 19, 20, 21, 22, 23, 24, 25])) (by kernel_rfl) (by kernel_rfl) (fun _ _ _ _ _ h => h) ⟨trivial, (by go_simp), (by go_simp), (Below.refl _ X).drew⟩ ?_
  clear k0 k1
  rintro V ⟨-, k0, k1, hXW⟩
  rw [wpSched]
  simp only [pick, List.map_cons, List.map_nil, Array.getD_eq_getD_getElem?, List.getElem?_toArray, List.getElem?_cons_succ, List.getElem?_cons_zero, Option.getD_some]
  have kk0 := plusW_cell k0
  have kk1 := plusW_cell k1
  repeat (first | go_big_quiet_step (fail) | quiet_step (fail))
  refine wpQuiet_nil ?_
  refine heavy_want (by rfl) (fun K' hK' => ?_)
  go_simp
  refine (HV _).mono ?_
  rintro e V1 ⟨rfl, hw⟩
  obtain rfl : V = V1 := hw.symm
  refine hK' _ _ (Below.refl _ _) ?_
  clear hK' K' HV hw
  try simp only [Act.put, List.setIfInBounds_toArray, List.set_cons_zero, List.set_cons_succ]
  rw [wpSched]
  simp only [pick, List.map_cons, List.map_nil, Array.getD_eq_getD_getElem?, List.getElem?_toArray, List.getElem?_cons_succ, List.getElem?_cons_zero, Option.getD_some]
  repeat (first | go_big_quiet_step (fail) | quiet_step (fail))
  refine wpQuiet_nil ?_
  clear kk0 kk1
  replace hB := thru hB hXW
  replace a_b := a_b.later hXW
  have yV := HY.out.later hXW
  have hXV : X.heap.size ≤ V.heap.size := hXW.size
  have hgV : g < V.heap.size := Nat.lt_of_lt_of_le (HXG.out _ rfl) hXV
  have haV : a < V.heap.size := by omega
  clear hXW HY HXG hz0 hXV hd hd2
  go_wp2_with (refine wpList_allocTo 4 rfl rfl _ rfl sig_zero ?_; intro X4 a4 hb hz4; refine Hid.out ?_)
  unfold Hid
  try simp only [Act.put, List.setIfInBounds_toArray, List.set_cons_zero, List.set_cons_succ]
  obtain ⟨b4, hb4⟩ : ∃ a, V.heap.size = a := ⟨_, rfl⟩
  have HB4 := Lib.hid hb4
  rw [hb4] at a4 hz4 hgV haV ⊢
  clear hb4
  go_wp2_with (refine wpList_storeB rfl rfl _ (.tmp 4) _ rfl (b := b4) (q := 0) rfl (n := 20) (v := sig0 (l0.toNat : Int)) rfl a4 (fun j _ => sig_one _ _ _ _ _ j) sig_size ?_; intro Y4 t1; refine Hid.out ?_)
  unfold Hid
  replace hb := t1.below V.heap.size V (by have := HB4.out; omega) hb
  have g4 : Blk Y4 b4 0 20 (sigV (l0.toNat : Int) (fun _ => 0#64) none 0 0) := t1.blk
  clear t1 a4 hz4
  replace hB := thru hB hb
  replace a_b := a_b.later hb
  have yY := yV.later hb
  have kY := later hb k1
  have hz4 : b4 < Y4.heap.size := World.block_lt_of_cell? _ _ (g4.at 0 (by omega)).1
  clear hb k0 k1 yV
  obtain ⟨Z0, hZ0⟩ : ∃ Z, Y4 = Z := ⟨_, rfl⟩
  rw [hZ0] at g4 hB a_b yY kY hz4 ⊢
  clear hZ0
  go_wp2_with fail
  go_loopw [5] (fun u5 wr => ∃ i : Nat, i ≤ 18 ∧ u5 = .int .i64 (i : Int) ∧ Below b4 Z0 wr ∧ Blk wr b4 0 20 (sigV (l0.toNat : Int) (fun k => if k < i then F k else 0#64) none 0 0) ∧ b4 < wr.heap.size) (fun u5 _ => 18 - (intOf u5).toNat)
  case atStart => exact ⟨0, by omega, rfl, Below.refl _ _, g4.congr (fun j hj => by simp), hz4⟩
  case round =>
    clear g4
    obtain ⟨i, hi, rfl, hBZ, gB, hzr⟩ := hrel
    have yW : Bts wr (some ⟨g, o, none⟩) l := yY.low hBZ (fun y hy => by cases hy; exact hgV)
    by_cases hlt : i < 18
    · have hki : decide ((i : Int) < 18) = true := by simp; omega
      obtain ⟨s, hs⟩ : ∃ s, 8 * i = s := ⟨_, rfl⟩
      have h8i : 8 * (i : Int) = (s : Int) := by omega
      obtain ⟨t, ht⟩ : ∃ t, 2 + s = t := ⟨_, rfl⟩
      have h2s : 2 + (s : Int) = (t : Int) := by omega
      have HT8 := Lib.hid (show t + 8 ≤ l.length ∧ t ≤ 250 by rw [HLEN.out]; omega)
      have hfi : Sgn.wd l t 8 = F i := by rw [← HF.out, ← ht, ← hs]
      have hcon := fun W (hy : Bts W (some ⟨g, o, none⟩) l) => refword_any t l (some ⟨g, o, none⟩) c W hy HT8.out
      rw [hfi, HNN.out] at hcon
      obtain ⟨v, hv⟩ : ∃ v, F i = v := ⟨_, rfl⟩
      have HVF := Lib.hid hv
      rw [hv] at hcon
      have hs200 : s ≤ 200 := by omega
      clear hs ht hfi hv kY
      go_wp2_with fail
      refine (hcon _ yW).mono ?_
      rintro e W2 ⟨rfl, hb⟩
      have gB2 := gB.later hb
      have cj : W2.cell? ⟨b4, 1 + i, none⟩ = some (.int .u64 (num (if i < i then F i else 0#64))) := (gB2.chain i hlt).1
      have fj := (gB2.chain i hlt).2
      have hBZ2 : Below b4 Z0 W2 := hBZ.trans (hb.mono (by omega))
      have hzr2 : b4 < W2.heap.size := Nat.lt_of_lt_of_le hzr hb.size
      clear gB hBZ hb hzr hcon yW
      go_wp2_with fail
      exact ⟨⟨i + 1, by omega, by go_num, hBZ2.setCell (p := ⟨b4, 1 + i, none⟩) (Nat.le_refl _) _, (sig_set gB2 i hlt v).congr (fun j hj => by
        unfold sigV
        by_cases h0 : j = 0
        · rw [if_pos h0, if_pos h0]
        · rw [if_neg h0, if_neg h0]
          by_cases h19 : j < 19
          · rw [if_pos h19, if_pos h19]
            dsimp only
            by_cases hji : j - 1 = i
            · rw [if_pos hji, if_pos (by omega), hji, HVF.out]
            · rw [if_neg hji]
              by_cases hl : j - 1 < i
              · rw [if_pos hl, if_pos (by omega)]
              · rw [if_neg hl, if_neg (by omega)]
          · rw [if_neg h19, if_neg h19]), by simp <;> omega⟩, by simp [intOf]; omega⟩
    · obtain rfl : i = 18 := by omega
      rw [show ((18 : Nat) : Int) = 18 from rfl]
      have gB1 : Blk wr b4 0 20 (sigV (l0.toNat : Int) F none 0 0) := gB.congr (fun j hj => by
        unfold sigV
        by_cases h0 : j = 0
        · rw [if_pos h0, if_pos h0]
        · rw [if_neg h0, if_neg h0]
          by_cases h19 : j < 19
          · rw [if_pos h19, if_pos h19]
            dsimp only
            rw [if_pos (by omega)]
          · rw [if_neg h19, if_neg h19])
      have a1 := a_b.low hBZ haV
      have hBw : Below w.heap.size w wr := hB.trans (hBZ.mono (by omega))
      have kW := (hBZ.cell (p := ⟨g, o + 1, none⟩) (show g < b4 from hgV)).trans kY
      obtain ⟨Z, hZ⟩ : ∃ Z, wr = Z := ⟨_, rfl⟩
      rw [hZ] at gB1 hzr a1 hBw yW kW ⊢
      clear gB hBZ hZ a_b yY kY hB
      go_wp2_with fail
      go_loopw [6] (fun u6 wr => DeRel (l0.toNat : Int) F l m b4 Z u6 wr) (fun u6 _ => m - (intOf u6).toNat)
      case atStart => exact ⟨0, none, 0, by omega, rfl, OwnsW.nil _ _, gB1, Below.refl _ _, hzr⟩
      case round =>
        clear gB1
        obtain ⟨j, xj, cj, hj, rfl, ho, gB, hBZ, hzw⟩ := hrel
        have hjl := Sgn.wds_length l j
        have kX := (hBZ.cell (p := ⟨g, o + 1, none⟩) (show g < b4 from hgV)).trans kW
        by_cases hlt : j < m
        · have hjm : decide (j < m) = true := decide_eq_true hlt
          have hLK := Sgn.wds_succ l j
          have hLN := Sgn.wds_length l (j + 1)
          obtain ⟨s, hs⟩ : ∃ s, 8 * j = s := ⟨_, rfl⟩
          have h8i : 8 * (j : Int) = (s : Int) := by omega
          obtain ⟨t, ht⟩ : ∃ t, 146 + s = t := ⟨_, rfl⟩
          have h2s : 146 + (s : Int) = (t : Int) := by omega
          have HT8 := Lib.hid (show t + 8 ≤ l.length ∧ t ≤ 250 by rw [HLEN.out]; omega)
          rw [hs, ht] at hLK
          obtain ⟨vj, hvj⟩ : ∃ v, Sgn.wd l t 8 = v := ⟨_, rfl⟩
          rw [hvj] at hLK
          obtain ⟨lk, hlk⟩ : ∃ k, Sgn.wds l j = k := ⟨_, rfl⟩
          rw [hlk] at hLK hjl ho gB
          have hlk6 : lk.length ≤ 6 := by omega
          have hcon := fun W (hy : Bts W (some ⟨g, o, none⟩) l) => refword_any t l (some ⟨g, o, none⟩) c W hy HT8.out
          rw [hvj, HNN.out] at hcon
          have HCON := Lib.hid hcon
          have HLK := Lib.hid hLK.symm
          have HLN := Lib.hid hLN
          have c19 : wr.cell? ⟨b4, 19, none⟩ = some (.slice xj lk.length cj) := (gB.at 19 (by omega)).1
          have f19 := (gB.at 19 (by omega)).2
          have yX : Bts wr (some ⟨g, o, none⟩) l := yW.low hBZ (fun y hy => by cases hy; exact hgV)
          have hs200 : s ≤ 200 := by omega
          clear hjl hLK hLN hs ht hvj hlk kW yW hcon
          go_wp2_with fail
          clear kX
          refine wp_region_schedB (B := b4) (fun X => X.cell? ⟨b4, 19, none⟩ = some (.slice xj lk.length cj) ∧ X.frozen? ⟨b4, 19, none⟩ = false ∧ OwnsW (b4 + 1) X xj cj lk ∧ Below wr.heap.size wr X ∧ b4 + 1 ≤ X.heap.size ∧ Bts X (some ⟨g, o, none⟩) l) (.two [0, 2, 3, 4, 5] 1 (.one [] 6 (.one [] 7 (.one [] 8 (.one [9] 10 (.done []))))) 6 (.two [] 1 (.one [] 7 (.one [] 8 (.one [9] 10 (.done [])))) 7 (.one [] 1 (.one [] 8 (.one [9] 10 (.done [])))))) (by kernel_rfl) (by kernel_rfl) (fun _ _ _ _ _ h => h) ⟨c19, f19, ho.turn ((Turns.refl (fun _ => False) wr).drew) (fun _ _ e => e), (Below.refl _ _).drew, by simp <;> omega, yX⟩ ?_
          clear c19 f19 ho yX
          rintro X ⟨c19, f19, ho, ht, hzX, yX⟩
          rw [wpSchedB]
          simp only [pick, List.map_cons, List.map_nil, Array.getD_eq_getD_getElem?, List.getElem?_toArray, List.getElem?_cons_succ, List.getElem?_cons_zero, Option.getD_some]
          repeat (first | go_big_quiet_step (fail) | quiet_step (fail))
          refine wpQuiet_nil ?_
          refine ⟨?_, ?_⟩
          · refine heavyB_want (by rfl) (fun K' hK' => ?_)
            go_simp
            refine hK' _ _ (Below.refl _ _) ?_
            clear hK' K'
            try simp only [Act.put, List.setIfInBounds_toArray, List.set_cons_zero, List.set_cons_succ]
            rw [wpSchedB]
            simp only [pick, List.map_nil, Array.getD_eq_getD_getElem?, List.getElem?_toArray, List.getElem?_cons_succ, List.getElem?_cons_zero, Option.getD_some]
            refine wpQuiet_nil ?_
            refine heavyB_want (by rfl) (fun K' hK' => ?_)
            go_simp
            refine (HCON.out _ yX).mono ?_
            rintro e X1 ⟨rfl, hb⟩
            refine hK' _ _ (hb.mono (by omega)) ?_
            clear hK' K'
            replace c19 := later hb c19
            replace f19 := (Below.frozen hb (by simp <;> omega)).trans f19
            replace ho := ho.later hb
            replace ht := thru ht hb
            have hz1 := hb.size
            replace hzX : b4 + 1 ≤ X1.heap.size := by omega
            clear hb hz1 yX
            try simp only [Act.put, List.setIfInBounds_toArray, List.set_cons_zero, List.set_cons_succ]
            rw [wpSchedB]
            simp only [pick, List.map_nil, Array.getD_eq_getD_getElem?, List.getElem?_toArray, List.getElem?_cons_succ, List.getElem?_cons_zero, Option.getD_some]
            refine wpQuiet_nil ?_
            refine heavyB_want (by rfl) (fun K' hK' => ?_)
            go_simp
            refine hK' _ _ ((Below.refl _ _).alloc (by omega) _) ?_
            clear hK' K'
            have hq1 := al (Below.refl _ X1) (.cells #[.int .u64 (num vj)] 23)
            have ny : (X1.alloc (.cells #[.int .u64 (num vj)] 23)).cell? ⟨X1.heap.size, 0, none⟩ = some (.int .u64 (num vj)) := by go_simp
            replace c19 := later hq1 c19
            replace f19 := (Below.frozen hq1 (by simp <;> omega)).trans f19
            replace ho := ho.later hq1
            replace ht := thru ht hq1
            have hzy : X1.heap.size < (X1.alloc (.cells #[.int .u64 (num vj)] 23)).heap.size := by simp
            obtain ⟨X2, hX2⟩ : ∃ Z : World, X1.alloc (.cells #[.int .u64 (num vj)] 23) = Z := ⟨_, rfl⟩
            rw [hX2] at ny c19 f19 ho ht hzy
            rw [hX2]
            clear hX2 hq1
            try simp only [Act.put, List.setIfInBounds_toArray, List.set_cons_zero, List.set_cons_succ]
            rw [wpSchedB]
            simp only [pick, List.map_nil, Array.getD_eq_getD_getElem?, List.getElem?_toArray, List.getElem?_cons_succ, List.getElem?_cons_zero, Option.getD_some]
            refine wpQuiet_nil ?_
            refine heavyB_want (by rfl) (fun K' hK' => ?_)
            refine wp_appWX _ _ rfl (B := b4 + 1) (l := lk) (cap := cj) (xa := xj) ho rfl (ad := ⟨X1.heap.size, 0, none⟩) (u := vj) rfl ny (by omega) (by omega) (fun x' c' X3 h1 h2 h3 _ => hK' _ _ (h2.mono (by omega)) ?_)
            clear hK' K'
            rw [HLK.out] at h1 ⊢
            replace c19 := later_lt h2 (a := ⟨b4, 19, none⟩) (by simp <;> omega) c19
            replace f19 := (h2.frozen (p := ⟨b4, 19, none⟩) (by simp <;> omega)).trans f19
            have ht3 : Below (b4 + 1) wr X3 := (ht.mono (by omega)).trans h2
            clear ho h2 h3 ny ht
            try simp only [Act.put, List.setIfInBounds_toArray, List.set_cons_zero, List.set_cons_succ]
            rw [wpSchedB]
            simp only [pick, List.map_cons, List.map_nil, Array.getD_eq_getD_getElem?, List.getElem?_toArray, List.getElem?_cons_succ, List.getElem?_cons_zero, Option.getD_some]
            repeat (first | go_big_quiet_step (fail) | quiet_step (fail))
            refine wpQuiet_nil ?_
            refine heavyB_want (by rfl) (fun K' hK' => ?_)
            go_simp
            refine hK' _ _ ((Below.refl _ _).setCell (p := ⟨b4, 19, none⟩) (Nat.le_refl _) _) ?_
            clear hK' K'
            try simp only [Act.put, List.setIfInBounds_toArray, List.set_cons_zero, List.set_cons_succ]
            rw [wpSchedB]
            simp only [List.map_nil]
            refine wpQuiet_nil ?_
            have ga := gB.low ht3 (by omega)
            have hz3 : b4 < X3.heap.size := by have := ht3.size; omega
            have hB3 : Below b4 Z X3 := hBZ.trans (ht3.mono (by omega))
            clear c19 f19 ht3
            go_wp2_with fail
            exact ⟨⟨j + 1, x', c', by omega, by go_num, h1.turn ((Turns.refl (fun b => b = b4) X3).setCell (p := ⟨b4, 19, none⟩) (fun _ => rfl) _) (fun b hb e => by have h0 := (h1.low b hb).1; have e' : b = b4 := e; omega), by rw [← HLN.out]; exact sig_path ga _ _ _, hB3.setCell (p := ⟨b4, 19, none⟩) (Nat.le_refl _) _, by simp <;> omega⟩, by simp [intOf]; omega⟩
          · refine heavyB_want (by rfl) (fun K' hK' => ?_)
            go_simp
            refine (HCON.out _ yX).mono ?_
            rintro e X1 ⟨rfl, hb⟩
            refine hK' _ _ (hb.mono (by omega)) ?_
            clear hK' K'
            replace c19 := later hb c19
            replace f19 := (Below.frozen hb (by simp <;> omega)).trans f19
            replace ho := ho.later hb
            replace ht := thru ht hb
            have hz1 := hb.size
            replace hzX : b4 + 1 ≤ X1.heap.size := by omega
            clear hb hz1 yX
            try simp only [Act.put, List.setIfInBounds_toArray, List.set_cons_zero, List.set_cons_succ]
            rw [wpSchedB]
            simp only [pick, List.map_nil, Array.getD_eq_getD_getElem?, List.getElem?_toArray, List.getElem?_cons_succ, List.getElem?_cons_zero, Option.getD_some]
            refine wpQuiet_nil ?_
            refine ⟨?_, ?_⟩
            · refine heavyB_want (by rfl) (fun K' hK' => ?_)
              go_simp
              refine hK' _ _ (Below.refl _ _) ?_
              clear hK' K'
              try simp only [Act.put, List.setIfInBounds_toArray, List.set_cons_zero, List.set_cons_succ]
              rw [wpSchedB]
              simp only [pick, List.map_nil, Array.getD_eq_getD_getElem?, List.getElem?_toArray, List.getElem?_cons_succ, List.getElem?_cons_zero, Option.getD_some]
              refine wpQuiet_nil ?_
              refine heavyB_want (by rfl) (fun K' hK' => ?_)
              go_simp
              refine hK' _ _ ((Below.refl _ _).alloc (by omega) _) ?_
              clear hK' K'
              have hq1 := al (Below.refl _ X1) (.cells #[.int .u64 (num vj)] 23)
              have ny : (X1.alloc (.cells #[.int .u64 (num vj)] 23)).cell? ⟨X1.heap.size, 0, none⟩ = some (.int .u64 (num vj)) := by go_simp
              replace c19 := later hq1 c19
              replace f19 := (Below.frozen hq1 (by simp <;> omega)).trans f19
              replace ho := ho.later hq1
              replace ht := thru ht hq1
              have hzy : X1.heap.size < (X1.alloc (.cells #[.int .u64 (num vj)] 23)).heap.size := by simp
              obtain ⟨X2, hX2⟩ : ∃ Z : World, X1.alloc (.cells #[.int .u64 (num vj)] 23) = Z := ⟨_, rfl⟩
              rw [hX2] at ny c19 f19 ho ht hzy
              rw [hX2]
              clear hX2 hq1
              try simp only [Act.put, List.setIfInBounds_toArray, List.set_cons_zero, List.set_cons_succ]
              rw [wpSchedB]
              simp only [pick, List.map_nil, Array.getD_eq_getD_getElem?, List.getElem?_toArray, List.getElem?_cons_succ, List.getElem?_cons_zero, Option.getD_some]
              refine wpQuiet_nil ?_
              refine heavyB_want (by rfl) (fun K' hK' => ?_)
              refine wp_appWX _ _ rfl (B := b4 + 1) (l := lk) (cap := cj) (xa := xj) ho rfl (ad := ⟨X1.heap.size, 0, none⟩) (u := vj) rfl ny (by omega) (by omega) (fun x' c' X3 h1 h2 h3 _ => hK' _ _ (h2.mono (by omega)) ?_)
              clear hK' K'
              rw [HLK.out] at h1 ⊢
              replace c19 := later_lt h2 (a := ⟨b4, 19, none⟩) (by simp <;> omega) c19
              replace f19 := (h2.frozen (p := ⟨b4, 19, none⟩) (by simp <;> omega)).trans f19
              have ht3 : Below (b4 + 1) wr X3 := (ht.mono (by omega)).trans h2
              clear ho h2 h3 ny ht
              try simp only [Act.put, List.setIfInBounds_toArray, List.set_cons_zero, List.set_cons_succ]
              rw [wpSchedB]
              simp only [pick, List.map_cons, List.map_nil, Array.getD_eq_getD_getElem?, List.getElem?_toArray, List.getElem?_cons_succ, List.getElem?_cons_zero, Option.getD_some]
              repeat (first | go_big_quiet_step (fail) | quiet_step (fail))
              refine wpQuiet_nil ?_
              refine heavyB_want (by rfl) (fun K' hK' => ?_)
              go_simp
              refine hK' _ _ ((Below.refl _ _).setCell (p := ⟨b4, 19, none⟩) (Nat.le_refl _) _) ?_
              clear hK' K'
              try simp only [Act.put, List.setIfInBounds_toArray, List.set_cons_zero, List.set_cons_succ]
              rw [wpSchedB]
              simp only [List.map_nil]
              refine wpQuiet_nil ?_
              have ga := gB.low ht3 (by omega)
              have hz3 : b4 < X3.heap.size := by have := ht3.size; omega
              have hB3 : Below b4 Z X3 := hBZ.trans (ht3.mono (by omega))
              clear c19 f19 ht3
              go_wp2_with fail
              exact ⟨⟨j + 1, x', c', by omega, by go_num, h1.turn ((Turns.refl (fun b => b = b4) X3).setCell (p := ⟨b4, 19, none⟩) (fun _ => rfl) _) (fun b hb e => by have h0 := (h1.low b hb).1; have e' : b = b4 := e; omega), by rw [← HLN.out]; exact sig_path ga _ _ _, hB3.setCell (p := ⟨b4, 19, none⟩) (Nat.le_refl _) _, by simp <;> omega⟩, by simp [intOf]; omega⟩
            · refine heavyB_want (by rfl) (fun K' hK' => ?_)
              go_simp
              refine hK' _ _ ((Below.refl _ _).alloc (by omega) _) ?_
              clear hK' K'
              have hq1 := al (Below.refl _ X1) (.cells #[.int .u64 (num vj)] 23)
              have ny : (X1.alloc (.cells #[.int .u64 (num vj)] 23)).cell? ⟨X1.heap.size, 0, none⟩ = some (.int .u64 (num vj)) := by go_simp
              replace c19 := later hq1 c19
              replace f19 := (Below.frozen hq1 (by simp <;> omega)).trans f19
              replace ho := ho.later hq1
              replace ht := thru ht hq1
              have hzy : X1.heap.size < (X1.alloc (.cells #[.int .u64 (num vj)] 23)).heap.size := by simp
              obtain ⟨X2, hX2⟩ : ∃ Z : World, X1.alloc (.cells #[.int .u64 (num vj)] 23) = Z := ⟨_, rfl⟩
              rw [hX2] at ny c19 f19 ho ht hzy
              rw [hX2]
              clear hX2 hq1
              try simp only [Act.put, List.setIfInBounds_toArray, List.set_cons_zero, List.set_cons_succ]
              rw [wpSchedB]
              simp only [pick, List.map_nil, Array.getD_eq_getD_getElem?, List.getElem?_toArray, List.getElem?_cons_succ, List.getElem?_cons_zero, Option.getD_some]
              refine wpQuiet_nil ?_
              refine heavyB_want (by rfl) (fun K' hK' => ?_)
              go_simp
              refine hK' _ _ (Below.refl _ _) ?_
              clear hK' K'
              try simp only [Act.put, List.setIfInBounds_toArray, List.set_cons_zero, List.set_cons_succ]
              rw [wpSchedB]
              simp only [pick, List.map_nil, Array.getD_eq_getD_getElem?, List.getElem?_toArray, List.getElem?_cons_succ, List.getElem?_cons_zero, Option.getD_some]
              refine wpQuiet_nil ?_
              refine heavyB_want (by rfl) (fun K' hK' => ?_)
              refine wp_appWX _ _ rfl (B := b4 + 1) (l := lk) (cap := cj) (xa := xj) ho rfl (ad := ⟨X1.heap.size, 0, none⟩) (u := vj) rfl ny (by omega) (by omega) (fun x' c' X3 h1 h2 h3 _ => hK' _ _ (h2.mono (by omega)) ?_)
              clear hK' K'
              rw [HLK.out] at h1 ⊢
              replace c19 := later_lt h2 (a := ⟨b4, 19, none⟩) (by simp <;> omega) c19
              replace f19 := (h2.frozen (p := ⟨b4, 19, none⟩) (by simp <;> omega)).trans f19
              have ht3 : Below (b4 + 1) wr X3 := (ht.mono (by omega)).trans h2
              clear ho h2 h3 ny ht
              try simp only [Act.put, List.setIfInBounds_toArray, List.set_cons_zero, List.set_cons_succ]
              rw [wpSchedB]
              simp only [pick, List.map_cons, List.map_nil, Array.getD_eq_getD_getElem?, List.getElem?_toArray, List.getElem?_cons_succ, List.getElem?_cons_zero, Option.getD_some]
              repeat (first | go_big_quiet_step (fail) | quiet_step (fail))
              refine wpQuiet_nil ?_
              refine heavyB_want (by rfl) (fun K' hK' => ?_)
              go_simp
              refine hK' _ _ ((Below.refl _ _).setCell (p := ⟨b4, 19, none⟩) (Nat.le_refl _) _) ?_
              clear hK' K'
              try simp only [Act.put, List.setIfInBounds_toArray, List.set_cons_zero, List.set_cons_succ]
              rw [wpSchedB]
              simp only [List.map_nil]
              refine wpQuiet_nil ?_
              have ga := gB.low ht3 (by omega)
              have hz3 : b4 < X3.heap.size := by have := ht3.size; omega
              have hB3 : Below b4 Z X3 := hBZ.trans (ht3.mono (by omega))
              clear c19 f19 ht3
              go_wp2_with fail
              exact ⟨⟨j + 1, x', c', by omega, by go_num, h1.turn ((Turns.refl (fun b => b = b4) X3).setCell (p := ⟨b4, 19, none⟩) (fun _ => rfl) _) (fun b hb e => by have h0 := (h1.low b hb).1; have e' : b = b4 := e; omega), by rw [← HLN.out]; exact sig_path ga _ _ _, hB3.setCell (p := ⟨b4, 19, none⟩) (Nat.le_refl _) _, by simp <;> omega⟩, by simp [intOf]; omega⟩
        · obtain rfl : j = m := by omega
          rw [hjl] at gB
          have hl1 := run_loadS gB
          have a2 : Blk wr a 0 20 zeroS := a1.low hBZ haV
          have hB2 := hBw.trans (hBZ.mono (by omega))
          have hjj : decide (j < j) = false := decide_eq_false hlt
          clear yW kW
          go_wp2_with (first | (refine wpList_loadN rfl _ (.tmp 4) rfl (b := b4) (q := 0) rfl hl1 ?_) | (refine wpList_storeB rfl rfl _ (.tmp 2) _ rfl (b := a) (q := 0) rfl (n := 20) (v := sigV (l0.toNat : Int) F xj j cj) rfl a2 (fun j _ => sig_one _ _ _ _ _ j) sig_size ?_; intro Y9 t1; refine Hid.out ?_))
          unfold Hid
          have hB3 := t1.below w.heap.size w (by omega) hB2
          have l9 := run_loadS t1.blk
          have tt := t1.turns (fun b => b = a) wr (fun _ => rfl) (Turns.refl _ _)
          have ho9 := ho.turn tt (fun b hb e => by have h0 := (ho.low b hb).1; have e' : b = a := e; omega)
          clear t1 tt hl1 a1 a2 gB ho
          go_wp2_with fail
          refine bodyPost_ret (v := .tuple #[aggN 20 (sigV (l0.toNat : Int) F xj j cj), .int .i64 0]) ?_ rfl ⟨xj, cj, rfl, ho9.weaken (by omega), hB3⟩
          rw [results_cell_tmp rfl]
          simp [asAddr, Result.andThen]
          rw [l9]
end

section
open Go.RowKit

theorem refEncode_bad (key : Int) (f : Nat → D64) (x : Option Addr) (n c : Nat) (w : World) (hn : vldG (n : Int) key = false) : Calls Tryz.prog 26 #[aggN 20 (sigV key f x n c)] w fun e w' => e = .returned (.tuple #[.slice none 0 0, .int .i64 2]) ∧ Below w.heap.size w w' := by
  have hv := refValid6_any (n : Int) key
  rw [hn] at hv
  go_enter Tryz.func26, Tryz.ntmps26
  go_wp2_with (refine wpList_boxN rfl _ _ rfl rfl ?_; intro W g hB hz; refine Hid.out ?_)
  unfold Hid
  try simp only [Act.put, List.setIfInBounds_toArray, List.set_cons_zero, List.set_cons_succ]
  have c0 : W.cell? ⟨w.heap.size, 0, none⟩ = some (.int .i64 key) := (g.at 0 (by omega)).1
  have c19 : W.cell? ⟨w.heap.size, 19, none⟩ = some (.slice x n c) := (g.at 19 (by omega)).1
  clear g hz
  go_wp2_with fail
  refine (hv _).mono ?_
  rintro e w1 ⟨rfl, hw⟩
  obtain rfl : W = w1 := hw.symm
  clear hv hw
  go_wp2_with fail
  exact bodyPost_ret (v := .tuple #[.slice none 0 0, .int .i64 2]) (by simp [results, Tryz.f26, go_sem]) rfl ⟨rfl, hB⟩
set_option maxHeartbeats 1000000 in
theorem refEncode_ok (key : Nat) (f : Nat → D64) (p : List D64) (x : Option Addr) (c : Nat) (w : World) (hp : Wts w x p) (h6 : p.length ≤ 6) (hk : key < 2 ^ p.length) :
    Calls Tryz.prog 26 #[aggN 20 (sigV (key : Int) f x p.length c)] w fun e w' => ∃ y cy, e = .returned (.tuple #[.slice y (Sgn.enc key f p).length cy, .int .i64 0]) ∧ OwnsB w.heap.size w' y cy (Sgn.enc key f p) ∧ Below w.heap.size w w' := by
  have hki : (key : Int) < 2 ^ p.length := by
    have : ((key : Nat) : Int) < ((2 ^ p.length : Nat) : Int) := by exact_mod_cast hk
    simpa using this
  have hvv : vldG (p.length : Int) (key : Int) = true := by
    unfold vldG
    refine decide_eq_true ⟨by omega, by omega, by omega, ?_⟩
    rw [Int.toNat_natCast]
    exact hki
  have HV := refValid6_any (p.length : Int) (key : Int)
  rw [hvv] at HV
  have hwk := wrap_u8z (key : Int)
  have hwn := wrap_u8z (p.length : Int)
  have HL : Hid ([u8z (key : Int), u8z (p.length : Int)] ++ Sgn.ends f 18 ++ Sgn.ends (fun j => p.getD j 0#64) p.length = Sgn.enc key f p) := by show _ = _; rw [u8z_nat, u8z_nat]; rfl
  obtain ⟨n, hn⟩ : ∃ n, p.length = n := ⟨_, rfl⟩
  have HN := Lib.hid hn
  rw [hn] at h6 HV hwn HL ⊢
  obtain ⟨ka, hka⟩ : ∃ a, u8z (key : Int) = a := ⟨_, rfl⟩
  obtain ⟨na, hna⟩ : ∃ a, u8z (n : Int) = a := ⟨_, rfl⟩
  rw [hka] at hwk HL
  rw [hna] at hwn HL
  clear hk hki hn hka hna hvv
  go_enter Tryz.func26, Tryz.ntmps26
  go_wp2_with (refine wpList_boxN rfl _ _ rfl rfl ?_; intro W g hB hz; refine Hid.out ?_)
  unfold Hid
  try simp only [Act.put, List.setIfInBounds_toArray, List.set_cons_zero, List.set_cons_succ]
  have HZ := Lib.hid hz
  obtain ⟨a, ha⟩ : ∃ a, w.heap.size = a := ⟨_, rfl⟩
  have HA := Lib.hid ha
  rw [ha] at g ⊢
  clear hz ha
  have c0 : W.cell? ⟨a, 0, none⟩ = some (.int .i64 (key : Int)) := (g.at 0 (by omega)).1
  have c19 : W.cell? ⟨a, 19, none⟩ = some (.slice x n c) := (g.at 19 (by omega)).1
  have gc := g.chain
  have hp1 := hp.later hB
  clear g hp
  go_wp2_with fail
  refine (HV _).mono ?_
  rintro e w1 ⟨rfl, hw⟩
  obtain rfl : W = w1 := hw.symm
  clear HV hw
  go_wp2_with fail
  clear c0
  go_loopw [4, 5] (fun u4 u5 wr => EnRel [ka, na] f 18 W u4 u5 wr) (fun _ u5 _ => 18 - (intOf u5).toNat)
  case atStart =>
    refine ⟨0, some ⟨W.heap.size, 0, none⟩, 2, by omega, rfl, rfl, ?_, al (Below.refl _ _) _⟩
    exact OwnsB.whole W.heap.size W.heap.size W [ka, na] _ rfl (Nat.le_refl _) rfl (by simp)
  case round =>
    obtain ⟨i, y, cy, hi, rfl, rfl, hown, hBr⟩ := hrel
    by_cases hlt : i < 18
    · have hki : decide ((i : Int) < 18) = true := by simp; omega
      have cch : wr.cell? ⟨a, 1 + i, none⟩ = some (.int .u64 (num (f i))) := later hBr (gc i hlt).1
      obtain ⟨v, hvf⟩ : ∃ v, f i = v := ⟨_, rfl⟩
      rw [hvf] at cch
      obtain ⟨lx, hlx⟩ : ∃ l, Dig.bytes v = l := ⟨_, rfl⟩
      have nx : lx.length = 8 := by rw [← hlx]; exact Dig.bytes_length _
      have cx := refBytes_any v
      rw [hlx] at cx
      have hle := Sgn.ends_length f i
      have hE : [ka, na] ++ Sgn.ends f (i + 1) = ([ka, na] ++ Sgn.ends f i) ++ lx := by rw [← hlx, ← hvf, List.append_assoc]; rfl
      obtain ⟨l, hl⟩ : ∃ l, [ka, na] ++ Sgn.ends f i = l := ⟨_, rfl⟩
      have hll : l.length ≤ 200 := by rw [← hl]; simp; omega
      rw [hl] at hown hE ⊢
      obtain ⟨lm, hlm⟩ : ∃ lm, l ++ lx = lm := ⟨_, rfl⟩
      rw [hlm] at hE
      have HM := Lib.hid hE
      have HE := Lib.hid hlm
      have HO := Lib.hid hown
      have HX := Lib.hid nx
      have HLL := Lib.hid hll
      clear hlx nx hle hE hlm hl hown hll hvf c19
      go_wp2_with fail
      refine (cx _).mono ?_
      rintro e w2 ⟨b3, c3, rfl, y3, hb3⟩
      have HO3 := Lib.hid (HO.out.later hb3)
      have Y3 := Lib.hid y3
      have hB2 := thru hBr hb3
      clear cx HO hBr hb3 y3 cch
      go_wp2_with (at_builtin; refine wpList_app rfl _ _ rfl (B := W.heap.size) (l := l) HO3.out rfl (m := lx) rfl Y3.out.bts Y3.out.none_cap (by have := HX.out; have := HLL.out; omega) HE.out hB2.size ?_; intro x' cap' w3 h3 h4 h5; refine Hid.out ?_)
      unfold Hid
      have hB3 := hB2.trans h4
      have H3 := Lib.hid h3
      clear hB2 h4 h5 h3 HO3 Y3
      go_wp2_with fail
      refine ⟨⟨i + 1, x', cap', by omega, by rw [HM.out], by go_num, by rw [HM.out]; exact H3.out, hB3⟩, by simp [intOf]; omega⟩
    · obtain rfl : i = 18 := by omega
      rw [show ((18 : Nat) : Int) = 18 from rfl]
      obtain ⟨l0, hl0⟩ : ∃ l, [ka, na] ++ Sgn.ends f 18 = l := ⟨_, rfl⟩
      rw [hl0] at hown HL ⊢
      have n0 : l0.length = 146 := by rw [← hl0]; simp [Sgn.ends_length]
      have HN0 := Lib.hid n0
      have HO := Lib.hid hown
      clear hl0 hown n0
      go_wp2_with fail
      go_loopw [4, 6] (fun u4 u6 wr => EnRel l0 (fun j => p.getD j 0#64) n W u4 u6 wr) (fun _ u6 _ => n - (intOf u6).toNat)
      case atStart => exact ⟨0, y, cy, by omega, by rw [show l0 ++ Sgn.ends (fun j => p.getD j 0#64) 0 = l0 from List.append_nil _], rfl, by rw [show l0 ++ Sgn.ends (fun j => p.getD j 0#64) 0 = l0 from List.append_nil _]; exact HO.out, hBr⟩
      case round =>
        clear HO
        obtain ⟨i, y, cy, hi, rfl, rfl, hown, hBs⟩ := hrel
        have d19 := later hBs c19
        by_cases hlt : i < n
        · have hki : decide ((i : Int) < (n : Int)) = true := by simp; omega
          obtain ⟨b, o, rfl, hci⟩ := hp1.cell i (by have := HN.out; omega)
          have hci2 := later hBs hci
          obtain ⟨v, hv⟩ : ∃ v, p.getD i 0#64 = v := ⟨_, rfl⟩
          obtain ⟨lx, hlx⟩ : ∃ l, Dig.bytes v = l := ⟨_, rfl⟩
          have nx : lx.length = 8 := by rw [← hlx]; exact Dig.bytes_length _
          have cx := refBytes_any v
          rw [hlx] at cx
          have hle := Sgn.ends_length (fun j => p.getD j 0#64) i
          have hE : l0 ++ Sgn.ends (fun j => p.getD j 0#64) (i + 1) = (l0 ++ Sgn.ends (fun j => p.getD j 0#64) i) ++ lx := by rw [← hlx, ← hv, List.append_assoc]; rfl
          obtain ⟨l, hl⟩ : ∃ l, l0 ++ Sgn.ends (fun j => p.getD j 0#64) i = l := ⟨_, rfl⟩
          have hll : l.length ≤ 300 := by rw [← hl, List.length_append, HN0.out]; omega
          rw [hl] at hown hE ⊢
          rw [hv] at hci hci2
          obtain ⟨lm, hlm⟩ : ∃ lm, l ++ lx = lm := ⟨_, rfl⟩
          rw [hlm] at hE
          have HM := Lib.hid hE
          have HE := Lib.hid hlm
          have HO := Lib.hid hown
          have HX := Lib.hid nx
          have HLL := Lib.hid hll
          clear hlx nx hle hE hlm hl hown hll hv hci hp1 c19
          go_wp2_with fail
          refine (cx _).mono ?_
          rintro e w2 ⟨b3, c3, rfl, y3, hb3⟩
          have HO3 := Lib.hid (HO.out.later hb3)
          have Y3 := Lib.hid y3
          have hB2 := thru hBs hb3
          clear cx hci2 HO hBs hb3 y3 d19
          go_wp2_with (at_builtin; refine wpList_app rfl _ _ rfl (B := W.heap.size) (l := l) HO3.out rfl (m := lx) rfl Y3.out.bts Y3.out.none_cap (by have := HX.out; have := HLL.out; omega) HE.out hB2.size ?_; intro x' cap' w3 h3 h4 h5; refine Hid.out ?_)
          unfold Hid
          have hB3 := hB2.trans h4
          have H3 := Lib.hid h3
          clear hB2 h4 h5 h3 HO3 Y3
          go_wp2_with fail
          refine ⟨⟨i + 1, x', cap', by omega, by rw [HM.out], by go_num, by rw [HM.out]; exact H3.out, hB3⟩, by simp [intOf]; omega⟩
        · obtain rfl : i = n := by omega
          have hnn : decide (i < i) = false := decide_eq_false hlt
          have HH := Lib.hid hown
          clear hown hp1 c19
          go_wp2_with fail
          refine bodyPost_ret (v := .tuple #[.slice y (l0 ++ Sgn.ends (fun j => p.getD j 0#64) i).length cy, .int .i64 0]) (by simp [results, Tryz.f26, go_sem]) rfl ⟨y, cy, ?_, ?_, ?_⟩
          · rw [HL.out]
          · rw [← HL.out]; exact HH.out.weaken hB.size
          · exact thru hB hBs
end

section
open Go.RowKit

theorem refVerify_no (root : D64) (h : Int) (d : D64) (key : Int) (f : Nat → D64) (x : Option Addr) (n c : Nat) (w : World) (hn : vldG h key = false ∨ (n : Int) ≠ h) :
    Calls Tryz.prog 39 #[.int .u64 (num root), .int .i64 h, .int .u64 (num d), aggN 20 (sigV key f x n c)] w fun e w' => e = .returned (.bool false) ∧ Below w.heap.size w w' := by
  have hv2 := refValid6_any h key
  go_enter Tryz.func39, Tryz.ntmps39
  go_wp2_with (refine wpList_boxN rfl _ _ rfl rfl ?_; intro W g hB hz; refine Hid.out ?_)
  unfold Hid
  try simp only [Act.put, List.setIfInBounds_toArray, List.set_cons_zero, List.set_cons_succ]
  have c0 : W.cell? ⟨w.heap.size, 0, none⟩ = some (.int .i64 key) := (g.at 0 (by omega)).1
  have c19 : W.cell? ⟨w.heap.size, 19, none⟩ = some (.slice x n c) := (g.at 19 (by omega)).1
  clear g hz
  cases hv : vldG h key with
  | false =>
    rw [hv] at hv2
    clear hn hv
    go_wp2_with fail
    refine (hv2 _).mono ?_
    rintro e w1 ⟨rfl, hw⟩
    obtain rfl : W = w1 := hw.symm
    clear hw hv2
    go_wp2_with fail
    go_ret
    exact ⟨rfl, hB⟩
  | true =>
    have hne : ((n : Int) == h) = false := by
      rcases hn with hn | hn
      · rw [hv] at hn; cases hn
      · simp [hn]
    rw [hv] at hv2
    clear hn hv
    go_wp2_with fail
    refine (hv2 _).mono ?_
    rintro e w1 ⟨rfl, hw⟩
    obtain rfl : W = w1 := hw.symm
    clear hv2 hw
    go_wp2_with fail
    go_ret
    exact ⟨rfl, hB⟩
set_option maxRecDepth 20000 in
set_option maxHeartbeats 2000000 in
theorem refVerify_yes (root d : D64) (key : Nat) (f : Nat → D64) (p : List D64) (x : Option Addr) (c : Nat) (w : World) (hp : Wts w x p) (h6 : p.length ≤ 6) (hk : key < 2 ^ p.length) :
    Calls Tryz.prog 39 #[.int .u64 (num root), .int .i64 (p.length : Int), .int .u64 (num d), aggN 20 (sigV (key : Int) f x p.length c)] w fun e w' => e = .returned (.bool (Sgn.vfy d key f p == root)) ∧ Below w.heap.size w w' := by
  have hki : (key : Int) < 2 ^ p.length := by
    have : ((key : Nat) : Int) < ((2 ^ p.length : Nat) : Int) := by exact_mod_cast hk
    simpa using this
  have hk64 : key < 64 := Nat.lt_of_lt_of_le hk (Nat.pow_le_pow_right (n := 2) (by decide) h6)
  have hvv : vldG (p.length : Int) (key : Int) = true := by
    unfold vldG
    refine decide_eq_true ⟨by omega, by omega, by omega, ?_⟩
    rw [Int.toNat_natCast]
    exact hki
  have HV0 := refValid6_any (p.length : Int) (key : Int)
  rw [hvv] at HV0
  obtain ⟨E, hE0⟩ : ∃ E : Nat → D64, (fun i => Sgn.adv (UInt8.ofNat i) (Sgn.dig d i) (15 - Sgn.dig d i) (f i)) = E := ⟨_, rfl⟩
  have HEE := Lib.hid hE0
  have HVF : Hid (Sgn.vfy d key f p = Sgn.up key p (Dig.ofL (Sgn.ends E 18)) p.length) := by show _ = _; unfold Sgn.vfy; rw [hE0]; rfl
  obtain ⟨n, hn⟩ : ∃ n, p.length = n := ⟨_, rfl⟩
  have HN := Lib.hid hn
  rw [hn] at h6 HV0 HVF ⊢
  have hnn : ((n : Int) == (n : Int)) = true := by simp
  clear hk hki hn hvv hE0
  go_enter Tryz.func39, Tryz.ntmps39
  go_wp2_with (refine wpList_boxN rfl _ _ rfl rfl ?_; intro W g hB hz; refine Hid.out ?_)
  unfold Hid
  try simp only [Act.put, List.setIfInBounds_toArray, List.set_cons_zero, List.set_cons_succ]
  obtain ⟨a, ha⟩ : ∃ a, w.heap.size = a := ⟨_, rfl⟩
  have haW : a < W.heap.size := by omega
  rw [ha] at g hz ⊢
  have gx := hp.later (hB.mono (Nat.le_refl _))
  clear hp hz ha
  have c0 : W.cell? ⟨a, 0, none⟩ = some (.int .i64 (key : Int)) := (g.at 0 (by omega)).1
  have c19 : W.cell? ⟨a, 19, none⟩ = some (.slice x n c) := (g.at 19 (by omega)).1
  go_wp2_with fail
  refine (HV0 _).mono ?_
  rintro e w1 ⟨rfl, hw⟩
  obtain rfl : W = w1 := hw.symm
  clear HV0 hw
  go_wp2_with fail
  refine (refDigits_any d _).mono ?_
  rintro e W1 ⟨rfl, hb⟩
  replace hB := thru hB hb
  replace g := g.later hb
  replace gx := gx.later hb
  replace haW : a < W1.heap.size := Nat.lt_of_lt_of_le haW hb.size
  clear hb c0 c19
  go_wp2_with (refine wpList_allocTo 10 rfl rfl _ rfl arrI_zero ?_; intro Xp0 a_b hb0 hz0; refine Hid.out ?_)
  unfold Hid
  try simp only [Act.put, List.setIfInBounds_toArray, List.set_cons_zero, List.set_cons_succ]
  obtain ⟨b, e_b⟩ : ∃ a, W1.heap.size = a := ⟨_, rfl⟩
  have s_b : W1.heap.size ≤ b := by omega
  have hb := hb0
  rw [e_b] at a_b hz0 ⊢
  clear hb0
  have hz : b < Xp0.heap.size := by omega
  clear e_b hz0
  go_wp2_with (refine wpList_storeB rfl rfl _ (.tmp 10) _ rfl (b := b) (q := 0) rfl (n := 18) (v := digV d) (aggN_arr _).symm a_b (fun _ _ => rfl) arrI_size ?_; intro Yp0 t1; refine Hid.out ?_)
  unfold Hid
  replace hb := t1.below _ _ (by omega) hb
  replace a_b := t1.blk
  rw [← t1.size] at hz
  clear t1
  replace g := g.later hb
  replace gx := gx.later hb
  replace hB := thru hB hb
  clear hb hz

  obtain ⟨Z, hZ⟩ : ∃ Z, Yp0 = Z := ⟨_, rfl⟩
  rw [hZ] at g gx a_b hB ⊢
  have hbz : b < Z.heap.size := World.block_lt_of_cell? _ _ (a_b.at 0 (by omega)).1
  have haz : a < Z.heap.size := by omega
  have AB := Lib.hid a_b
  have GG := Lib.hid g
  have GX := Lib.hid gx
  clear hZ a_b g gx s_b haW
  go_wp2_with fail
  go_loopw [9, 11] (fun u9 u11 wr => ∃ i y cy, i ≤ 18 ∧ u11 = .int .i64 ((i : Nat) : Int) ∧ u9 = .slice y (Sgn.ends E i).length cy ∧ OwnsB Z.heap.size wr y cy (Sgn.ends E i) ∧ Below Z.heap.size Z wr) (fun _ u11 _ => 18 - (intOf u11).toNat)
  case atStart => exact ⟨0, none, 0, by omega, rfl, rfl, OwnsB.nil _ _, Below.refl _ _⟩
  case round =>
    obtain ⟨i, y, cy, hi, rfl, rfl, hown, hBr⟩ := hrel
    by_cases hlt : i < 18
    · have hki : decide ((i : Int) < 18) = true := by simp; omega
      have hi18 : decide ((i : Int) < 18) = true := hki
      have c1 : wr.cell? ⟨b, i, none⟩ = some (.int .i64 ((Sgn.dig d i : Nat) : Int)) := later hBr (AB.out.at i hlt).1
      have c2 : wr.cell? ⟨a, 1 + i, none⟩ = some (.int .u64 (num (f i))) := later hBr (GG.out.chain i hlt).1
      have hx15 := Sgn.dig_le d i
      have hEi : Sgn.adv (UInt8.ofNat i) (Sgn.dig d i) (15 - Sgn.dig d i) (f i) = E i := by rw [← HEE.out]
      obtain ⟨x, hx⟩ : ∃ x, Sgn.dig d i = x := ⟨_, rfl⟩
      obtain ⟨fi, hfi⟩ : ∃ y, f i = y := ⟨_, rfl⟩
      rw [hx] at c1 hx15 hEi
      rw [hfi] at c2 hEi
      obtain ⟨v, hv⟩ : ∃ v, E i = v := ⟨_, rfl⟩
      rw [hv] at hEi
      have HV := Lib.hid hEi
      obtain ⟨lx, hlx⟩ : ∃ l, Dig.bytes v = l := ⟨_, rfl⟩
      have nx : lx.length = 8 := by rw [← hlx]; exact Dig.bytes_length _
      have cx := refBytes_any v
      rw [hlx] at cx
      have hle := Sgn.ends_length E i
      have hE : Sgn.ends E (i + 1) = Sgn.ends E i ++ lx := by rw [← hlx, ← hv]; rfl
      obtain ⟨l, hl⟩ : ∃ l, Sgn.ends E i = l := ⟨_, rfl⟩
      have hll : l.length ≤ 200 := by rw [← hl]; omega
      rw [hl] at hown hE ⊢
      obtain ⟨lm, hlm⟩ : ∃ lm, l ++ lx = lm := ⟨_, rfl⟩
      rw [hlm] at hE
      have HM := Lib.hid hE
      have HE := Lib.hid hlm
      have HO := Lib.hid hown
      have HX := Lib.hid nx
      have HLL := Lib.hid hll
      clear hlx nx hle hE hlm hl hown hll hv hEi hx hfi
      go_wp2_with fail
      refine wp_region_schedB (B := Z.heap.size) (fun X => X.cell? ⟨b, i, none⟩ = some (.int .i64 (x : Int)) ∧ X.cell? ⟨a, 1 + i, none⟩ = some (.int .u64 (num fi)) ∧ OwnsB Z.heap.size X y cy l ∧ Below Z.heap.size Z X) (.one [0, 1, 2, 3, 4, 5, 6, 7, 8] 9 (.one [] 10 (.one [] 11 (.done [12])))) (by kernel_rfl) (by kernel_rfl) (fun _ _ _ _ _ h => h) ⟨c1, c2, HO.out.turn ((Turns.refl (fun _ => False) wr).drew) (fun _ _ e => e), hBr.drew⟩ ?_
      clear c1 c2 HO hBr
      rintro X ⟨c1, c2, ho, hBr⟩
      have HO := Lib.hid ho
      clear ho
      rw [wpSchedB]
      simp only [pick, List.map_cons, List.map_nil, Array.getD_eq_getD_getElem?, List.getElem?_toArray, List.getElem?_cons_succ, List.getElem?_cons_zero, Option.getD_some]
      have k1 := plusB_cell (B := Z.heap.size) c1 hbz
      have k2 := plusB_cell (B := Z.heap.size) c2 haz
      repeat (first | go_big_quiet_step (fail) | quiet_step (fail))
      refine wpQuiet_nil ?_
      clear k1 k2
      refine heavyB_want (by rfl) (fun K' hK' => ?_)
      go_simp
      refine (refAdvance_any i x 15 fi _ hx15 (by omega)).mono ?_
      rintro e X1 ⟨rfl, hb⟩
      refine hK' _ _ (hb.mono hBr.size) ?_
      clear hK' K'
      rw [HV.out]
      have HO1 := Lib.hid (HO.out.later hb)
      replace hBr := thru hBr hb
      clear hb HO c1 c2
      try simp only [Act.put, List.setIfInBounds_toArray, List.set_cons_zero, List.set_cons_succ]
      rw [wpSchedB]
      simp only [pick, List.map_nil, Array.getD_eq_getD_getElem?, List.getElem?_toArray, List.getElem?_cons_succ, List.getElem?_cons_zero, Option.getD_some]
      refine wpQuiet_nil ?_
      refine heavyB_want (by rfl) (fun K' hK' => ?_)
      go_simp
      refine (cx _).mono ?_
      rintro e X2 ⟨b3, c3, rfl, y3, hb⟩
      refine hK' _ _ (hb.mono hBr.size) ?_
      clear hK' K'
      have HO2 := Lib.hid (HO1.out.later hb)
      have Y3 := Lib.hid y3
      replace hBr := thru hBr hb
      clear hb HO1 y3 cx
      try simp only [Act.put, List.setIfInBounds_toArray, List.set_cons_zero, List.set_cons_succ]
      rw [wpSchedB]
      simp only [pick, List.map_nil, Array.getD_eq_getD_getElem?, List.getElem?_toArray, List.getElem?_cons_succ, List.getElem?_cons_zero, Option.getD_some]
      refine wpQuiet_nil ?_
      refine heavyB_want (by rfl) (fun K' hK' => ?_)
      refine wp_app _ _ rfl HO2.out rfl (m := lx) rfl Y3.out.bts Y3.out.none_cap (by have := HX.out; have := HLL.out; omega) HE.out hBr.size (fun x' cap' w3 h3 h4 _ => hK' _ _ h4 ?_)
      clear hK' K'
      have hB3 := hBr.trans h4
      have H3 := Lib.hid h3
      clear h3 h4 HO2 Y3 hBr
      try simp only [Act.put, List.setIfInBounds_toArray, List.set_cons_zero, List.set_cons_succ]
      rw [wpSchedB]
      simp only [pick, List.map_cons, List.map_nil, Array.getD_eq_getD_getElem?, List.getElem?_toArray, List.getElem?_cons_succ, List.getElem?_cons_zero, Option.getD_some]
      repeat (first | go_big_quiet_step (fail) | quiet_step (fail))
      refine wpQuiet_nil ?_
      go_wp2_with fail
      refine ⟨⟨i + 1, x', cap', by omega, by go_num, by rw [HM.out], by rw [HM.out]; exact H3.out, hB3⟩, by simp [intOf]; omega⟩
    · obtain rfl : i = 18 := by omega
      rw [show ((18 : Nat) : Int) = 18 from rfl]
      have hle := Sgn.ends_length E 18
      obtain ⟨l, hl⟩ : ∃ l, Sgn.ends E 18 = l := ⟨_, rfl⟩
      rw [hl] at hown HVF hle ⊢
      have hlb : l.length ≤ 100000 := by omega
      have y3 := hown.bts
      have c0 : wr.cell? ⟨a, 0, none⟩ = some (.int .i64 (key : Int)) := later hBr (GG.out.at 0 (by omega)).1
      have c19 : Z.cell? ⟨a, 19, none⟩ = some (.slice x n c) := (GG.out.at 19 (by omega)).1
      clear hl hown hle
      go_wp2_with fail
      refine (refOf_any _ l _ _ hlb y3).mono ?_
      rintro e w4 ⟨rfl, rfl⟩
      obtain ⟨x0, hx0⟩ : ∃ x, Dig.ofL l = x := ⟨_, rfl⟩
      rw [hx0] at HVF ⊢
      clear y3 hlb hx0
      go_wp2_with fail
      clear c0
      go_loopw [12, 13, 14] (fun u12 u13 u14 wr => ∃ j : Nat, j ≤ n ∧ u14 = .int .i64 (j : Int) ∧ u13 = .int .i64 ((key / 2 ^ j : Nat) : Int) ∧ u12 = .int .u64 (num (Sgn.up key p x0 j)) ∧ Below Z.heap.size Z wr) (fun _ _ u14 _ => n - (intOf u14).toNat)
      case atStart => exact ⟨0, by omega, rfl, by rw [Nat.pow_zero, Nat.div_one], rfl, hBr⟩
      case round =>
        obtain ⟨j, hj, rfl, rfl, rfl, hBs⟩ := hrel
        by_cases hlt : j < n
        · have hjn : decide (j < n) = true := decide_eq_true hlt
          obtain ⟨b', o', rfl, k1⟩ := GX.out.cell j (by have := HN.out; omega)
          replace k1 := later hBs k1
          have d19 := later hBs c19
          have hup : Sgn.up key p x0 (j + 1) = if key / 2 ^ j % 2 = 0 then Dig.pair (Sgn.up key p x0 j) (p.getD j 0#64) else Dig.pair (p.getD j 0#64) (Sgn.up key p x0 j) := rfl
          have hm64 : key / 2 ^ j < 64 := Nat.lt_of_le_of_lt (Nat.div_le_self _ _) hk64
          have hq2 : key / 2 ^ (j + 1) = key / 2 ^ j / 2 := by rw [Nat.pow_succ, Nat.div_div_eq_div_mul]
          obtain ⟨m, hm⟩ : ∃ m, key / 2 ^ j = m := ⟨_, rfl⟩
          rw [hm] at hup hm64 hq2 ⊢
          obtain ⟨y, hy⟩ : ∃ y, p.getD j 0#64 = y := ⟨_, rfl⟩
          rw [hy] at hup k1
          obtain ⟨z, hz⟩ : ∃ y, Sgn.up key p x0 j = y := ⟨_, rfl⟩
          rw [hz] at hup ⊢
          obtain ⟨q2, hq2v⟩ : ∃ q, m / 2 = q := ⟨_, rfl⟩
          rw [hq2v] at hq2
          have hqd : (m : Int) / 2 = (q2 : Int) := by omega
          have hqdt : (m : Int).tdiv 2 = (q2 : Int) := by rw [Int.tdiv_eq_ediv_of_nonneg (by omega)]; omega
          obtain ⟨r, hr⟩ : ∃ r, m % 2 = r := ⟨_, rfl⟩
          rw [hr] at hup
          have hrd : (m : Int) % 2 = (r : Int) := by omega
          have hrdt : (m : Int).tmod 2 = (r : Int) := by rw [Int.tmod_eq_emod_of_nonneg (by omega)]; omega
          have HU := Lib.hid hup
          have HQ2 := Lib.hid hq2
          clear hm hy hz hr hup hq2 hq2v c19
          by_cases h0 : r = 0
          · subst h0
            go_wp2_with fail
            refine (refPair_any z y _).mono ?_
            rintro e W4 ⟨rfl, hb⟩
            replace hBs := thru hBs hb
            clear hb
            have HE := Lib.hid (show Sgn.up key p x0 (j + 1) = Dig.pair z y by rw [HU.out]; simp)
            go_wp2_with fail
            exact ⟨⟨j + 1, by omega, by go_num, by rw [HQ2.out], by rw [HE.out], hBs⟩, by simp [intOf]; omega⟩
          · have hr0 : ((r : Int) == 0) = false := by simp [h0]
            go_wp2_with fail
            refine (refPair_any y z _).mono ?_
            rintro e W4 ⟨rfl, hb⟩
            replace hBs := thru hBs hb
            clear hb
            have HE := Lib.hid (show Sgn.up key p x0 (j + 1) = Dig.pair y z by rw [HU.out, if_neg h0])
            go_wp2_with fail
            exact ⟨⟨j + 1, by omega, by go_num, by rw [HQ2.out], by rw [HE.out], hBs⟩, by simp [intOf]; omega⟩
        · obtain rfl : j = n := by omega
          have hnn : decide (j < j) = false := decide_eq_false hlt
          clear c19
          go_wp2_with fail
          go_ret
          exact ⟨by rw [HVF.out]; rfl, thru hB hBs⟩
end

end Go.Proofs.YtapefonhgkjgnaaGreat
