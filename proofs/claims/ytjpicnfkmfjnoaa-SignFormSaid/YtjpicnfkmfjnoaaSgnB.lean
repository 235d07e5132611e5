/- WALKS of the sign layer: Step, advance, secret. -/
import Derived.Test.YtjpicnfkmfjnoaaSgnA
namespace Go.Proofs.Ytjpicnfkmfjnoaa
open Go.RowKit

/-- The last byte of an integer. -/
def u8z (v : Int) : UInt8 := UInt8.ofNat (v % 256).toNat
theorem wrap_u8z (v : Int) : IntKind.u8.wrap v = ((u8z v).toNat : Int) := by
  unfold u8z
  rw [UInt8.toNat_ofNat']
  simp [IntKind.wrap, IntKind.bits, IntKind.signed]
  omega
theorem u8z_nat (n : Nat) : u8z (n : Int) = UInt8.ofNat n := by
  unfold u8z
  apply UInt8.toNat_inj.1
  rw [UInt8.toNat_ofNat', UInt8.toNat_ofNat']
  omega
theorem lit2 (w : World) (a b : UInt8) : Bts (w.alloc (.cells #[.int .u8 (a.toNat : Int), .int .u8 (b.toNat : Int)] 5)) (some ⟨w.heap.size, 0, none⟩) [a, b] := bts_new w [a, b] _ (0, 0)
theorem lit3 (w : World) (a b c : UInt8) : Bts (w.alloc (.cells #[.int .u8 (a.toNat : Int), .int .u8 (b.toNat : Int), .int .u8 (c.toNat : Int)] 5)) (some ⟨w.heap.size, 0, none⟩) [a, b, c] := bts_new w [a, b, c] _ (0, 0)

set_option maxHeartbeats 1000000 in
theorem step_any (i k : Int) (x : D64) (w : World) : Calls Try.prog 13 #[.int .i64 i, .int .i64 k, .int .u64 (num x)] w (NumOf (Sgn.stepS (u8z i) (u8z k) x) w) := by
  have hwi := wrap_u8z i
  have hwk := wrap_u8z k
  have HP : Hid (num (Dig.ofL (u8z i :: u8z k :: Dig.bytes x)) = num (Sgn.stepS (u8z i) (u8z k) x)) := rfl
  obtain ⟨a, ha⟩ : ∃ a, u8z i = a := ⟨_, rfl⟩
  obtain ⟨b, hb'⟩ : ∃ a, u8z k = a := ⟨_, rfl⟩
  rw [ha] at hwi HP ⊢
  rw [hb'] at hwk HP ⊢
  obtain ⟨lx, hlx⟩ : ∃ l, Dig.bytes x = l := ⟨_, rfl⟩
  have nx : lx.length = 8 := by rw [← hlx]; exact Dig.bytes_length _
  have cx := bytes_any x
  rw [hlx] at cx HP
  have HA := Lib.hid nx
  obtain ⟨l, hl⟩ : ∃ l, [a, b] ++ lx = l := ⟨_, rfl⟩
  rw [show a :: b :: lx = l from hl] at HP
  clear hlx nx ha hb'
  go_enter Try.func13, Try.ntmps13
  go_wp2_with fail
  refine (cx _).mono ?_
  rintro e w1 ⟨b1, rfl, y1, hb1⟩
  clear cx
  have z1 := (lit2 w a b).later hb1
  have hB := thru (al (Below.refl _ w) _) hb1
  clear hb1
  go_wp2_with (at_builtin; refine wpList_app_full rfl _ _ rfl (l := [a, b]) (cap := 2) rfl z1 (fun h => by cases h) (m := lx) rfl y1 (by have := HA.out; simp; omega) (by have := HA.out; simp; omega) hl ?_; intro x' cap' w3 h1 h2; refine Hid.out ?_)
  unfold Hid
  have y3 := h1.bts
  replace hB := thru hB h2
  have hll : (l.length : Int) ≤ 100000 := by rw [← hl]; have := HA.out; simp; omega
  clear y1 z1 h1 h2 hl
  go_wp2_with fail
  refine (of_any _ l _ _ hll y3).mono ?_
  rintro e w4 ⟨rfl, h4⟩
  rw [HP.out]
  clear y3 hll
  go_wp2_with fail
  go_ret
  exact ⟨rfl, thru hB h4⟩

def AdRel (i f t : Nat) (x : D64) (w : World) (u3 u9 : Value) (wr : World) : Prop :=
  ∃ n : Nat, f + n ≤ t ∧ u9 = .int .i64 ((f + n : Nat) : Int) ∧ u3 = .int .u64 (num (Sgn.adv (UInt8.ofNat i) f n x)) ∧ Below w.heap.size w wr
set_option maxHeartbeats 1000000 in
theorem advance_any (i f t : Nat) (x : D64) (w : World) (hft : f ≤ t) (ht : t ≤ 15) : Calls Try.prog 40 #[.int .i64 (i : Int), .int .i64 (f : Int), .int .i64 (t : Int), .int .u64 (num x)] w (NumOf (Sgn.adv (UInt8.ofNat i) f (t - f) x) w) := by
  have hB := Below.refl w.heap.size w
  go_enter Try.func40, Try.ntmps40
  go_wp2_with fail
  go_loopw [3, 9] (fun u3 u9 wr => AdRel i f t x w u3 u9 wr) (fun _ u9 _ => t - (intOf u9).toNat)
  case atStart => exact ⟨0, by omega, rfl, rfl, hB⟩
  case round =>
    clear hB
    obtain ⟨n, hn, rfl, rfl, hB⟩ := hrel
    by_cases hlt : f + n < t
    · obtain ⟨k, hk⟩ : ∃ k, f + n = k := ⟨_, rfl⟩
      have HX : Hid (Sgn.adv (UInt8.ofNat i) f (n + 1) x = Sgn.stepS (UInt8.ofNat i) (UInt8.ofNat k) (Sgn.adv (UInt8.ofNat i) f n x)) := by show Sgn.stepS _ (UInt8.ofNat (f + n)) _ = _; rw [hk]
      have HK := Lib.hid hk
      obtain ⟨y, hy⟩ : ∃ y, Sgn.adv (UInt8.ofNat i) f n x = y := ⟨_, rfl⟩
      rw [hy] at HX
      rw [hk] at hlt ⊢
      rw [hy]
      have hkt : decide (k < t) = true := decide_eq_true hlt
      clear hk hy hn
      go_wp2_with fail
      refine (step_any (i : Int) (k : Int) y _).mono ?_
      rintro e w1 ⟨rfl, hb⟩
      rw [u8z_nat, u8z_nat, ← HX.out]
      replace hB := thru hB hb
      clear hb
      go_wp2_with fail
      refine ⟨⟨n + 1, by have := HK.out; omega, by have := HK.out; congr 1; omega, rfl, hB⟩, by simp [intOf]; omega⟩
    · have hnn : t - f = n := by omega
      have HNN := Lib.hid hnn
      obtain ⟨k, hk⟩ : ∃ k, f + n = k := ⟨_, rfl⟩
      rw [hk] at hlt ⊢
      have hkt : decide (k < t) = false := decide_eq_false hlt
      clear hk hnn
      go_wp2_with fail
      go_ret
      exact ⟨by rw [HNN.out]; rfl, hB⟩

set_option maxHeartbeats 1000000 in
theorem secret_any (seed : D64) (q i : Int) (w : World) : Calls Try.prog 41 #[.int .u64 (num seed), .int .i64 q, .int .i64 i] w (NumOf (Sgn.sec seed (u8z q) (u8z (q / 256)) (u8z i)) w) := by
  have hwq := wrap_u8z q
  have hwp := wrap_u8z (q / 256)
  have hwi := wrap_u8z i
  have HP : Hid (num (Dig.ofL (Dig.bytes seed ++ [u8z q, u8z (q / 256), u8z i])) = num (Sgn.sec seed (u8z q) (u8z (q / 256)) (u8z i))) := rfl
  obtain ⟨a, ha⟩ : ∃ a, u8z q = a := ⟨_, rfl⟩
  obtain ⟨b, hb'⟩ : ∃ a, u8z (q / 256) = a := ⟨_, rfl⟩
  obtain ⟨c, hc⟩ : ∃ a, u8z i = a := ⟨_, rfl⟩
  rw [ha] at hwq HP ⊢
  rw [hb'] at hwp HP ⊢
  rw [hc] at hwi HP ⊢
  obtain ⟨lx, hlx⟩ : ∃ l, Dig.bytes seed = l := ⟨_, rfl⟩
  have nx : lx.length = 8 := by rw [← hlx]; exact Dig.bytes_length _
  have cx := bytes_any seed
  rw [hlx] at cx HP
  have HA := Lib.hid nx
  obtain ⟨l, hl⟩ : ∃ l, lx ++ [a, b, c] = l := ⟨_, rfl⟩
  rw [hl] at HP
  clear hlx nx ha hb' hc
  go_enter Try.func41, Try.ntmps41
  go_wp2_with fail
  refine (cx _).mono ?_
  rintro e w1 ⟨b1, rfl, y1, hb1⟩
  clear cx
  have z1 := y1.later (al (Below.refl _ w1) (.cells #[.int .u8 (a.toNat : Int), .int .u8 (b.toNat : Int), .int .u8 (c.toNat : Int)] 5))
  go_wp2_with (at_builtin; refine wpList_app_full rfl _ _ rfl (l := lx) (cap := lx.length) rfl z1 (fun h => by cases h) (m := [a, b, c]) rfl (lit3 w1 a b c) (by have := HA.out; simp) (by have := HA.out; simp; omega) hl ?_; intro x' cap' w3 h1 h2; refine Hid.out ?_)
  unfold Hid
  have y3 := h1.bts
  have hB := thru (al hb1 _) h2
  have hll : (l.length : Int) ≤ 100000 := by rw [← hl]; have := HA.out; simp; omega
  clear y1 z1 h1 h2 hl hb1
  go_wp2_with fail
  refine (of_any _ l _ _ hll y3).mono ?_
  rintro e w4 ⟨rfl, h4⟩
  rw [HP.out]
  clear y3 hll
  go_wp2_with fail
  go_ret
  exact ⟨rfl, thru hB h4⟩

end Go.Proofs.Ytjpicnfkmfjnoaa
