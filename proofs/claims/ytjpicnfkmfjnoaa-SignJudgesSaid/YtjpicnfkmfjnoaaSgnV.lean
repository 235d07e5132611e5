/- WALKS of the reference of the sign layer: Value, Public, Node, Valid. -/
import Derived.Test.YtjpicnfkmfjnoaaSgnU
import Derived.Test.YtjpicnfkmfjnoaaSgnO
namespace Go.Proofs.Ytjpicnfkmfjnoaa
open Go.RowKit

set_option maxHeartbeats 1000000 in
theorem refValue_any (seed : D64) (q : Int) (i n : Nat) (hn : n ≤ 15) (w : World) : Calls Try.prog 42 #[.int .u64 (num seed), .int .i64 q, .int .i64 (i : Int), .int .i64 (n : Int)] w (NumOf (Sgn.val seed (u8z q) (u8z (q / 256)) i n) w) := by
  have hwq := wrap_u8z q
  have hwp := wrap_u8z (q / 256)
  have hwi := wrap_u8z (i : Int)
  have HV : Hid (Sgn.adv (UInt8.ofNat i) 0 n (Dig.ofL (Dig.bytes seed ++ [u8z q, u8z (q / 256), u8z (i : Int)])) = Sgn.val seed (u8z q) (u8z (q / 256)) i n) := by
    show _ = Sgn.adv (UInt8.ofNat i) 0 n (Sgn.sec seed (u8z q) (u8z (q / 256)) (UInt8.ofNat i))
    rw [u8z_nat]
    rfl
  obtain ⟨a, ha⟩ : ∃ a, u8z q = a := ⟨_, rfl⟩
  obtain ⟨b, hb'⟩ : ∃ a, u8z (q / 256) = a := ⟨_, rfl⟩
  obtain ⟨c, hc⟩ : ∃ a, u8z (i : Int) = a := ⟨_, rfl⟩
  rw [ha] at hwq HV ⊢
  rw [hb'] at hwp HV ⊢
  rw [hc] at hwi HV
  obtain ⟨z, hz⟩ : ∃ z, Sgn.val seed a b i n = z := ⟨_, rfl⟩
  rw [hz] at HV ⊢
  obtain ⟨lx, hlx⟩ : ∃ l, Dig.bytes seed = l := ⟨_, rfl⟩
  have nx : lx.length = 8 := by rw [← hlx]; exact Dig.bytes_length _
  have cx := refBytes_any seed
  rw [hlx] at cx HV
  have HA := Lib.hid nx
  obtain ⟨l, hl⟩ : ∃ l, lx ++ [a, b, c] = l := ⟨_, rfl⟩
  rw [hl] at HV
  clear hlx nx ha hb' hc hz
  go_enter Try.func42, Try.ntmps42
  go_wp2_with fail
  refine (cx _).mono ?_
  rintro e w1 ⟨b1, c1, rfl, y1, hb1⟩
  clear cx
  have Y1 := Lib.hid y1
  clear y1
  go_wp2_with (at_builtin; refine wpList_app rfl _ _ rfl (l := lx) (B := w.heap.size) (Y1.out.later (al (Below.refl _ w1) (.cells #[.int .u8 (a.toNat : Int), .int .u8 (b.toNat : Int), .int .u8 (c.toNat : Int)] 5))) rfl (m := [a, b, c]) rfl (lit3 w1 a b c) (fun h => by cases h) (by have := HA.out; simp; omega) hl (al hb1 _).size ?_; intro x' cap' w3 h1 h2 _; refine Hid.out ?_)
  unfold Hid
  have y3 := h1.bts
  have hB := (al hb1 _).trans h2
  have hll : l.length ≤ 100000 := by rw [← hl]; have := HA.out; simp; omega
  clear Y1 h1 h2 hl hb1
  go_wp2_with fail
  refine (refOf_any _ l _ _ hll y3).mono ?_
  rintro e w4 ⟨rfl, rfl⟩
  clear y3 hll
  obtain ⟨y, hy⟩ : ∃ y, Dig.ofL l = y := ⟨_, rfl⟩
  rw [hy] at HV ⊢
  clear hy
  go_wp2_with fail
  refine (refAdvance_any i 0 n y _ (by omega) hn).mono ?_
  rintro e w5 ⟨rfl, hb⟩
  rw [Nat.sub_zero, HV.out]
  go_wp2_with fail
  go_ret
  exact ⟨rfl, thru hB hb⟩
def RpRel (seed : D64) (a b : UInt8) (w : World) (u5 u6 : Value) (wr : World) : Prop :=
  ∃ i x c, i ≤ 18 ∧ u6 = .int .i64 ((i : Nat) : Int) ∧ u5 = .slice x (Sgn.ends (fun j => Sgn.val seed a b j 15) i).length c ∧ OwnsB w.heap.size wr x c (Sgn.ends (fun j => Sgn.val seed a b j 15) i) ∧ Below w.heap.size w wr
set_option maxHeartbeats 1000000 in
theorem refPublic_any (seed : D64) (q : Int) (w : World) : Calls Try.prog 16 #[.int .u64 (num seed), .int .i64 q] w (NumOf (Sgn.pub seed (u8z q) (u8z (q / 256))) w) := by
  have HP : Hid (Dig.ofL (Sgn.ends (fun j => Sgn.val seed (u8z q) (u8z (q / 256)) j 15) 18) = Sgn.pub seed (u8z q) (u8z (q / 256))) := rfl
  have HV := fun i => refValue_any seed q i 15 (Nat.le_refl _)
  obtain ⟨a, ha⟩ : ∃ a, u8z q = a := ⟨_, rfl⟩
  obtain ⟨b, hb'⟩ : ∃ a, u8z (q / 256) = a := ⟨_, rfl⟩
  rw [ha, hb'] at HP HV ⊢
  clear ha hb'
  go_enter Try.func16, Try.ntmps16
  go_wp2_with fail
  go_loopw [5, 6] (fun u5 u6 wr => RpRel seed a b w u5 u6 wr) (fun _ u6 _ => 18 - (intOf u6).toNat)
  case atStart => exact ⟨0, none, 0, by omega, rfl, rfl, OwnsB.nil _ _, Below.refl _ _⟩
  case round =>
    obtain ⟨i, x, c, hi, rfl, rfl, hown, hB⟩ := hrel
    by_cases hlt : i < 18
    · have hki : decide ((i : Int) < 18) = true := by simp; omega
      have hv := HV i
      obtain ⟨v, hvv⟩ : ∃ v, Sgn.val seed a b i 15 = v := ⟨_, rfl⟩
      rw [hvv] at hv
      obtain ⟨lx, hlx⟩ : ∃ l, Dig.bytes v = l := ⟨_, rfl⟩
      have nx : lx.length = 8 := by rw [← hlx]; exact Dig.bytes_length _
      have cx := refBytes_any v
      rw [hlx] at cx
      have hle := Sgn.ends_length (fun j => Sgn.val seed a b j 15) i
      have hE : Sgn.ends (fun j => Sgn.val seed a b j 15) (i + 1) = Sgn.ends (fun j => Sgn.val seed a b j 15) i ++ lx := by rw [← hlx, ← hvv]; rfl
      obtain ⟨l, hl⟩ : ∃ l, Sgn.ends (fun j => Sgn.val seed a b j 15) i = l := ⟨_, rfl⟩
      have hll : l.length ≤ 200 := by rw [← hl]; omega
      rw [hl] at hown hE ⊢
      obtain ⟨lm, hlm⟩ : ∃ lm, l ++ lx = lm := ⟨_, rfl⟩
      rw [hlm] at hE
      have HM := Lib.hid hE
      have HE := Lib.hid hlm
      have HO := Lib.hid hown
      have HX := Lib.hid nx
      have HLL := Lib.hid hll
      clear hlx nx hle hE hlm hl hown hll hvv HV
      go_wp2_with fail
      refine (hv _).mono ?_
      rintro e w2 ⟨rfl, hb2⟩
      have h2 := HO.out.later hb2
      have hB2 := thru hB hb2
      have HO2 := Lib.hid h2
      clear HO hB hb2 hv h2
      go_wp2_with fail
      refine (cx _).mono ?_
      rintro e w3 ⟨b3, c3, rfl, y3, hb3⟩
      have HO3 := Lib.hid (HO2.out.later hb3)
      have Y3 := Lib.hid y3
      replace hB2 := thru hB2 hb3
      clear cx HO2 hb3 y3
      go_wp2_with (at_builtin; refine wpList_app rfl _ _ rfl (B := w.heap.size) (l := l) HO3.out rfl (m := lx) rfl Y3.out.bts Y3.out.none_cap (by have := HX.out; have := HLL.out; omega) HE.out hB2.size ?_; intro x' cap' w4 h3 h4 _; refine Hid.out ?_)
      unfold Hid
      have hB3 := hB2.trans h4
      have H3 := Lib.hid h3
      clear hB2 h4 h3 HO3 Y3
      go_wp2_with fail
      refine ⟨⟨i + 1, x', cap', by omega, by go_num, by rw [HM.out], by rw [HM.out]; exact H3.out, hB3⟩, by simp [intOf]; omega⟩
    · obtain rfl : i = 18 := by omega
      rw [show ((18 : Nat) : Int) = 18 from rfl]
      have hle := Sgn.ends_length (fun j => Sgn.val seed a b j 15) 18
      obtain ⟨l, hl⟩ : ∃ l, Sgn.ends (fun j => Sgn.val seed a b j 15) 18 = l := ⟨_, rfl⟩
      rw [hl] at hown HP hle ⊢
      have hlb : l.length ≤ 100000 := by omega
      have y3 := hown.bts
      clear hl hown HV hle
      go_wp2_with fail
      refine (refOf_any _ l _ _ hlb y3).mono ?_
      rintro e w4 ⟨rfl, rfl⟩
      rw [HP.out]
      clear y3 hlb
      go_wp2_with fail
      go_ret
      exact ⟨rfl, hB⟩
theorem refNode_any (seed : D64) : ∀ (lv i : Nat) (w : World), lv ≤ 6 → (i + 1) * 2 ^ lv ≤ 10000 → Calls Try.prog 21 #[.int .u64 (num seed), .int .i64 (lv : Int), .int .i64 (i : Int)] w (NumOf (Sgn.node seed lv i) w)
  | 0, i, w, _, _ => by
    have HN : Hid (Sgn.pub seed (u8z (i : Int)) (u8z ((i : Int) / 256)) = Sgn.node seed 0 i) := by show _ = Sgn.pub seed (Sgn.keyA i) (Sgn.keyB i); rw [u8z_key, u8z_key2]
    obtain ⟨z, hz⟩ : ∃ z, Sgn.node seed 0 i = z := ⟨_, rfl⟩
    rw [hz] at HN ⊢
    clear hz
    go_enter Try.func21, Try.ntmps21
    go_wp2_with fail
    refine (refPublic_any seed (i : Int) _).mono ?_
    rintro e w1 ⟨rfl, hb⟩
    rw [HN.out]
    go_wp2_with fail
    go_ret
    exact ⟨rfl, hb⟩
  | lv + 1, i, w, h6, hi => by
    have hp : 2 ^ (lv + 1) = 2 * 2 ^ lv := by rw [Nat.pow_succ, Nat.mul_comm]
    have hp1 : 1 ≤ 2 ^ lv := Nat.one_le_two_pow
    have h2 : (2 * i + 1 + 1) * 2 ^ lv ≤ 10000 := by
      have e : (2 * i + 1 + 1) * 2 ^ lv = (i + 1) * 2 ^ (lv + 1) := by rw [hp, show 2 * i + 1 + 1 = (i + 1) * 2 by omega, Nat.mul_assoc]
      rw [e]; exact hi
    have h1 : (2 * i + 1) * 2 ^ lv ≤ 10000 := Nat.le_trans (Nat.mul_le_mul_right _ (by omega)) h2
    have hi10 : i ≤ 10000 := Nat.le_trans (Nat.le_trans (show i ≤ 2 * i + 1 by omega) (Nat.le_mul_of_pos_right _ hp1)) h1
    have c1 := fun W => refNode_any seed lv (2 * i) W (by omega) h1
    have c2 := fun W => refNode_any seed lv (2 * i + 1) W (by omega) h2
    have HN : Hid (Dig.pair (Sgn.node seed lv (2 * i)) (Sgn.node seed lv (2 * i + 1)) = Sgn.node seed (lv + 1) i) := rfl
    obtain ⟨z, hz⟩ : ∃ z, Sgn.node seed (lv + 1) i = z := ⟨_, rfl⟩
    obtain ⟨z1, hz1⟩ : ∃ z, Sgn.node seed lv (2 * i) = z := ⟨_, rfl⟩
    obtain ⟨z2, hz2⟩ : ∃ z, Sgn.node seed lv (2 * i + 1) = z := ⟨_, rfl⟩
    obtain ⟨i1, hi1⟩ : ∃ k, 2 * i = k := ⟨_, rfl⟩
    obtain ⟨i2, hi2⟩ : ∃ k, i1 + 1 = k := ⟨_, rfl⟩
    rw [hz1, hi1] at c1
    rw [hz2, hi1, hi2] at c2
    rw [hz, hz1, hz2] at HN
    rw [hz]
    have hiI : 2 * (i : Int) = (i1 : Int) := by omega
    have hiJ : (i1 : Int) + 1 = (i2 : Int) := by omega
    obtain ⟨l1, hl1⟩ : ∃ k, lv + 1 = k := ⟨_, rfl⟩
    have hlI : (l1 : Int) - 1 = (lv : Int) := by omega
    have hl0 : ((l1 : Int) == 0) = false := by
      rw [beq_eq_false_iff_ne]
      omega
    have hl6 : l1 ≤ 6 := by omega
    have hi1b : i1 ≤ 20000 := by omega
    rw [hl1]
    clear hz hz1 hz2 hi1 hi2 hl1 hi h1 h2 hp hp1 h6
    go_enter Try.func21, Try.ntmps21
    go_wp2_with fail
    refine (c1 _).mono ?_
    rintro e w1 ⟨rfl, hb⟩
    clear c1
    go_wp2_with fail
    refine (c2 _).mono ?_
    rintro e w2 ⟨rfl, hb2⟩
    clear c2
    go_wp2_with fail
    refine (refPair_any z1 z2 _).mono ?_
    rintro e w3 ⟨rfl, hb3⟩
    rw [HN.out]
    go_wp2_with fail
    go_ret
    exact ⟨rfl, thru (thru hb hb2) hb3⟩
theorem refValid_any (h q : Int) (w : World) : Calls Try.prog 19 #[.int .i64 h, .int .i64 q] w fun e w' => e = .returned (.bool (vldS h q)) ∧ w' = w := by
  by_cases h0 : h < 0
  · have hv : vldS h q = false := by unfold vldS; exact decide_eq_false (by omega)
    have d0 : decide (h < 0) = true := decide_eq_true h0
    have HV := Lib.hid hv
    rw [hv]
    clear hv h0
    go_enter Try.func19, Try.ntmps19
    go_wp2_with fail
    go_ret
    exact ⟨rfl, rfl⟩
  · by_cases h6 : 6 < h
    · have hv : vldS h q = false := by unfold vldS; exact decide_eq_false (by omega)
      have d0 : decide (h < 0) = false := decide_eq_false h0
      have d6 : decide (6 < h) = true := decide_eq_true h6
      rw [hv]
      clear hv h0 h6
      go_enter Try.func19, Try.ntmps19
      go_wp2_with fail
      go_ret
      exact ⟨rfl, rfl⟩
    · obtain ⟨n, rfl⟩ : ∃ n : Nat, h = (n : Int) := ⟨h.toNat, by omega⟩
      have hn6 : n ≤ 6 := by omega
      have hv : vldS (n : Int) q = (decide (0 ≤ q) && decide (q < ((2 ^ n : Nat) : Int))) := by
        unfold vldS
        rw [Int.toNat_natCast]
        have e : ((2 ^ n : Nat) : Int) = (2 : Int) ^ n := by simp
        rw [e, Bool.eq_iff_iff]
        simp only [Bool.and_eq_true, decide_eq_true_eq]
        constructor
        · rintro ⟨_, _, a, b⟩; exact ⟨a, b⟩
        · rintro ⟨a, b⟩; exact ⟨by omega, by omega, a, b⟩
      have HV := Lib.hid hv
      have d0 : decide ((n : Int) < 0) = false := decide_eq_false h0
      have d6 : decide ((6 : Int) < (n : Int)) = false := decide_eq_false h6
      clear h0 h6 hv
      go_enter Try.func19, Try.ntmps19
      go_wp2_with fail
      go_loopw [5, 6] (fun u5 u6 wr => ∃ i : Nat, i ≤ n ∧ u6 = .int .i64 (i : Int) ∧ u5 = .int .i64 ((2 ^ i : Nat) : Int) ∧ wr = w) (fun _ u6 _ => n - (intOf u6).toNat)
      case atStart => exact ⟨0, by omega, rfl, rfl, rfl⟩
      case round =>
        obtain ⟨i, hi, rfl, rfl, rfl⟩ := hrel
        have hp64 : 2 ^ i ≤ 64 := Nat.pow_le_pow_right (n := 2) (by decide) (show i ≤ 6 by omega)
        by_cases hlt : i < n
        · have hd : decide (i < n) = true := decide_eq_true hlt
          have hs : 2 ^ (i + 1) = 2 * 2 ^ i := by rw [Nat.pow_succ, Nat.mul_comm]
          obtain ⟨p, hp⟩ : ∃ p, 2 ^ i = p := ⟨_, rfl⟩
          rw [hp] at hp64 hs ⊢
          have HS := Lib.hid hs
          clear hp hs
          go_wp2_with fail
          exact ⟨⟨i + 1, by omega, by go_num, by rw [HS.out]; congr 1, trivial⟩, by simp [intOf]; omega⟩
        · obtain rfl : i = n := by omega
          have hd : decide (i < i) = false := decide_eq_false hlt
          obtain ⟨p, hp⟩ : ∃ p, 2 ^ i = p := ⟨_, rfl⟩
          rw [hp] at hp64 HV ⊢
          clear hp
          by_cases hq0 : 0 ≤ q
          · by_cases hqp : q < (p : Int)
            · have e0 : decide (0 ≤ q) = true := decide_eq_true hq0
              have e1 : decide (q < (p : Int)) = true := decide_eq_true hqp
              have HV2 : Hid (vldS (i : Int) q = true) := by show _ = _; rw [HV.out, e0, e1]; rfl
              clear hq0 hqp HV
              go_wp2_with fail
              go_ret
              exact ⟨by rw [HV2.out]; rfl, rfl⟩
            · have e0 : decide (0 ≤ q) = true := decide_eq_true hq0
              have e1 : decide (q < (p : Int)) = false := decide_eq_false hqp
              have HV2 : Hid (vldS (i : Int) q = false) := by show _ = _; rw [HV.out, e0, e1]; rfl
              clear hq0 hqp HV
              go_wp2_with fail
              go_ret
              exact ⟨by rw [HV2.out]; rfl, rfl⟩
          · have e0 : decide (0 ≤ q) = false := decide_eq_false hq0
            have HV2 : Hid (vldS (i : Int) q = false) := by show _ = _; rw [HV.out, e0]; rfl
            clear hq0 HV
            go_wp2_with fail
            go_ret
            exact ⟨by rw [HV2.out]; rfl, rfl⟩

end Go.Proofs.Ytjpicnfkmfjnoaa
