/- WALKS of the reference of the crc layer: Bit, Update, Sum, Append, Check. -/
import Derived.Test.YtgibfagnfhgelaaCrcSP
import Derived.BigQuiet
namespace Go.Proofs.Ytgibfagnfhgelaa
open Go.RowKit

theorem bit_b2w (r : W32) (b : Bool) : Crc.bit (r ^^^ Crc.b2w b) = if r.getLsbD 0 = b then r >>> 1 else (r >>> 1) ^^^ Crc.poly := by
  have h1 : (r ^^^ Crc.b2w b) >>> 1 = r >>> 1 := by
    rw [BitVec.ushiftRight_xor_distrib]
    have : Crc.b2w b >>> 1 = 0#32 := by cases b <;> decide
    rw [this, BitVec.xor_zero]
  unfold Crc.bit
  rw [h1, BitVec.getLsbD_xor, Crc.b2w_bit]
  cases r.getLsbD 0 <;> cases b <;> simp
theorem mod2_32 (x : W32) : n32 x % 2 = n32 (Crc.b2w (x.getLsbD 0)) := by
  have h := and1 x
  have e : bits .and .u32 (n32 x) 1 = n32 x % 2 := by
    have := u32_and x 1#32
    rw [show n32 1#32 = 1 by decide] at this
    rw [this]
    unfold n32
    rw [BitVec.toNat_and, show (1#32 : W32).toNat = 1 from rfl, Nat.and_one_is_mod]; simp
  rw [← e, h]
  cases x.getLsbD 0 <;> decide
theorem tmod32 (x : W32) (k : Int) : (n32 x).tmod k = n32 x % k := Int.tmod_eq_emod_of_nonneg (n32_nonneg x)
theorem tdiv32 (x : W32) (k : Int) : (n32 x).tdiv k = n32 x / k := Int.tdiv_eq_ediv_of_nonneg (n32_nonneg x)
theorem b2w_eq (a b : Bool) : (Crc.b2w a == Crc.b2w b) = (a == b) := by cases a <;> cases b <;> decide

set_option maxHeartbeats 400000 in
theorem refbit_any (r : W32) (b : Bool) (w : World) : Calls Try.prog 50 #[.int .u32 (n32 r), .int .u32 (n32 (Crc.b2w b))] w fun e w' => e = .returned (.int .u32 (n32 (Crc.bit (r ^^^ Crc.b2w b)))) ∧ w' = w := by
  have hp : (3988292384 : Int) = n32 Crc.poly := by decide
  have h0 := n32_nonneg r
  have hm := mod2_32 r
  have hd : n32 r / 2 = n32 (r >>> 1) := shr32 r 1
  have hm2 := tmod32 r 2
  have hd2 := tdiv32 r 2
  have hq := b2w_eq (r.getLsbD 0) b
  have hb := bit_b2w r b
  obtain ⟨a, ha⟩ : ∃ a, r.getLsbD 0 = a := ⟨_, rfl⟩
  rw [ha] at hm hq hb
  by_cases he : a = b
  · have hq2 : (a == b) = true := by simp [he]
    rw [hq2] at hq
    rw [if_pos he] at hb
    have HB := Lib.hid hb
    clear hb ha he hq2
    go_enter Try.func50, Try.ntmps50
    go_wp2_with fail
    go_ret
    rw [HB.out]
    exact ⟨rfl, rfl⟩
  · have hq2 : (a == b) = false := by simp [he]
    rw [hq2] at hq
    rw [if_neg he] at hb
    have HB := Lib.hid hb
    clear hb ha he hq2
    go_enter Try.func50, Try.ntmps50
    go_wp2_with fail
    go_ret
    rw [HB.out]
    exact ⟨rfl, rfl⟩

theorem not32 (s : W32) : IntKind.u32.wrap (4294967295 - n32 s) = n32 (~~~s) := by
  have h0 := n32_nonneg s; have h1 := n32_lt s
  rw [wrap32u]
  unfold n32 at *
  rw [BitVec.toNat_not]
  omega
def RuRel (s : W32) (l : List UInt8) (u5 u6 : Value) : Prop := ∃ j : Nat, j ≤ l.length ∧ u6 = .int .i64 (j : Int) ∧ u5 = .int .u32 (n32 (Crc.reg (~~~s) (l.take j)))
def RiRel (r p : W32) (u5 u7 u8 : Value) : Prop := ∃ k : Nat, k ≤ 8 ∧ u8 = .int .i64 (k : Int) ∧ u5 = .int .u32 (n32 (Crc.bitN k (r ^^^ Crc.low p k))) ∧ u7 = .int .u32 (n32 (p >>> k))
theorem ri_step (r p : W32) (k : Nat) (h : k < 32) : Crc.bit (Crc.bitN k (r ^^^ Crc.low p k) ^^^ Crc.b2w (p.getLsbD k)) = Crc.bitN (k + 1) (r ^^^ Crc.low p (k + 1)) := by
  rw [Crc.bitN_succ, Crc.low, ← BitVec.xor_assoc, Crc.bitN_xor k (r ^^^ Crc.low p k), Crc.bitN_one_shift k h]

set_option maxRecDepth 100000 in
set_option maxHeartbeats 1000000 in
theorem refup_any (s : W32) (x : Option Addr) (l : List UInt8) (c : Nat) (w : World) (hx : Bts w x l) (hl : l.length ≤ 10000000) :
    Calls Try.prog 48 #[.int .u32 (n32 s), .slice x l.length c] w fun e w' => e = .returned (.int .u32 (n32 (Crc.sumFrom s l))) ∧ w' = w := by
  have hn := not32 s
  go_enter Try.func48, Try.ntmps48
  go_wp2_with fail
  clear hn
  go_loop [5, 6] (fun u5 u6 => RuRel s l u5 u6) (fun _ u6 => l.length - (intOf u6).toNat)
  case atStart => exact ⟨0, by omega, rfl, rfl⟩
  case round =>
    obtain ⟨j, hj, rfl, rfl⟩ := hrel
    by_cases hlt : j < l.length
    · obtain ⟨g, o, rfl, hcl⟩ := hx.resolve_left (by intro e; subst e; simp at hlt)
      have hcj := hcl j hlt
      have hts := take_succ_getD l j hlt
      obtain ⟨v, hv⟩ : ∃ v, l.getD j 0 = v := ⟨_, rfl⟩
      obtain ⟨r, hr⟩ : ∃ r, Crc.reg (~~~s) (l.take j) = r := ⟨_, rfl⟩
      rw [hv] at hcj hts
      unfold encB at hcj
      have HTS : Hid (Crc.reg (~~~s) (l.take (j + 1)) = Crc.byte r v) := by show _ = _; rw [hts, Crc.reg_snoc, hr]
      have hp := u8_n32 v
      obtain ⟨p, hpp⟩ : ∃ p, Crc.ofByte v = p := ⟨_, rfl⟩
      rw [hpp] at hp
      have HL : Hid (Crc.bitN 8 (r ^^^ Crc.low p 8) = Crc.byte r v) := by show _ = _; rw [← hpp, Crc.low_byte]; rfl
      rw [hr]
      clear hcl hv hr hts hpp
      go_wp2_with fail
      clear hp hcj
      go_loop [5, 7, 8] (fun u5 u7 u8 => RiRel r p u5 u7 u8) (fun _ _ u8 => 8 - (intOf u8).toNat)
      case atStart => exact ⟨0, by omega, rfl, by simp [Crc.low, Crc.bitN], by simp⟩
      case round =>
        obtain ⟨k, hk, rfl, rfl, rfl⟩ := hrel
        by_cases hlk : k < 8
        · have h0 := n32_nonneg (p >>> k)
          have hm := mod2_32 (p >>> k)
          have hm2 := tmod32 (p >>> k) 2
          have hd2 := tdiv32 (p >>> k) 2
          have hd : n32 (p >>> k) / 2 = n32 (p >>> (k + 1)) := by rw [BitVec.shiftRight_add]; exact shr32 _ 1
          have hbk : (p >>> k).getLsbD 0 = p.getLsbD k := by simp
          obtain ⟨b, hb⟩ : ∃ b, p.getLsbD k = b := ⟨_, rfl⟩
          have hst := ri_step r p k (by omega)
          obtain ⟨q, hq⟩ : ∃ q, Crc.bitN k (r ^^^ Crc.low p k) = q := ⟨_, rfl⟩
          obtain ⟨z, hz⟩ : ∃ z, p >>> k = z := ⟨_, rfl⟩
          rw [hbk, hb] at hm
          rw [hb, hq] at hst
          rw [hz] at h0 hm hm2 hd2 hd
          rw [hq, hz]
          have HS := Lib.hid hst
          clear hst hq hz hb hbk
          go_wp2_with fail
          refine (refbit_any q b _).mono ?_
          rintro e w1 ⟨rfl, rfl⟩
          go_wp2_with fail
          go_round
          case rel => exact ⟨k + 1, by omega, by go_num, by rw [HS.out], rfl⟩
          case measure => simp [intOf]; omega
        · obtain rfl : k = 8 := by omega
          rw [HL.out]
          go_wp2_with fail
          go_round
          case rel => exact ⟨j + 1, by omega, by go_num, by rw [HTS.out]⟩
          case measure => simp [intOf]; omega
    · obtain rfl : j = l.length := by omega
      have HS : Hid (n32 (~~~Crc.reg (~~~s) l) = n32 (Crc.sumFrom s l)) := rfl
      have hn := not32 (Crc.reg (~~~s) l)
      rw [List.take_length]
      go_wp2_with fail
      go_ret
      rw [HS.out]
      exact ⟨rfl, rfl⟩

theorem refsum_any (x : Option Addr) (l : List UInt8) (c : Nat) (w : World) (hx : Bts w x l) (hl : l.length ≤ 10000000) :
    Calls Try.prog 45 #[.slice x l.length c] w fun e w' => e = .returned (.int .u32 (n32 (Crc.sum l))) ∧ w' = w := by
  have hz : (0 : Int) = n32 0#32 := by decide
  have HS : Hid (Crc.sumFrom 0#32 l = Crc.sum l) := rfl
  have cu := refup_any 0#32 x l c w hx hl
  rw [← hz, HS.out] at cu
  clear hz
  go_enter Try.func45, Try.ntmps45
  go_wp2_with fail
  refine cu.mono ?_
  rintro e w1 ⟨rfl, rfl⟩
  clear cu
  go_wp2_with fail
  go_ret
  exact ⟨rfl, rfl⟩

def RaRel (s : W32) (l : List UInt8) (w : World) (u3 u4 u5 : Value) (wr : World) : Prop :=
  ∃ (j : Nat) (x : Option Addr) (cap : Nat), j ≤ 4 ∧ u5 = .int .i64 (j : Int) ∧ u4 = .int .u32 (n32 (s >>> (8 * j))) ∧ u3 = .slice x (l ++ trailN s j).length cap ∧ OwnsB w.heap.size wr x cap (l ++ trailN s j) ∧ Below w.heap.size w wr
theorem low_mod (y : W32) : IntKind.u8.wrap (n32 y % 256) = ((low8 y).toNat : Int) := by
  rw [← u8_low32, wrap8u, wrap8u]; omega

set_option maxHeartbeats 1000000 in
theorem refapp_any (x : Option Addr) (l : List UInt8) (c : Nat) (w : World) (hx : Bts w x l) (hn : x = none → c = 0) (hl : l.length ≤ 100000) : Calls Try.prog 38 #[.slice x l.length c] w (AppOf l w) := by
  have hB := Below.refl w.heap.size w
  have L0 := Lib.hid (show [] ++ l = l from rfl)
  obtain ⟨s, hs⟩ : ∃ s, Crc.sum l = s := ⟨_, rfl⟩
  have HS := Lib.hid hs
  clear hs
  go_enter Try.func38, Try.ntmps38
  go_wp2_with (at_builtin; (refine wpList_app rfl _ _ rfl (l := []) (B := w.heap.size) (OwnsB.made' _ (w.heap.size) _ (Nat.le_refl _) rfl) rfl (m := l) rfl (hx.later (al hB _)) hn (by simp; omega) L0.out (by simp) ?_); intro x1 c1 w1 ho hb _; refine Hid.out ?_)
  unfold Hid
  replace hB := (al hB _).trans (hb.mono (by have := hB.size; first | omega | (simp <;> omega)))
  have hx1 := hx.later hB
  have O1 := Lib.hid ho
  clear ho hb hx L0
  go_wp2_with fail
  refine (refsum_any x l c _ hx1 (by omega)).mono ?_
  rintro e w2 ⟨rfl, rfl⟩
  rw [HS.out]
  have L1 := Lib.hid (show l ++ trailN s 0 = l by simp [trailN])
  have hs0 := Lib.hid (show s >>> (8 * 0) = s by simp)
  go_wp2_with fail
  go_loopw [3, 4, 5] (fun u3 u4 u5 wr => RaRel s l w u3 u4 u5 wr) (fun _ _ u5 _ => 4 - (intOf u5).toNat)
  case atStart => exact ⟨0, x1, c1, by omega, rfl, by rw [hs0.out], by rw [L1.out], by rw [L1.out]; exact O1.out, hB⟩
  case round =>
    clear O1 hB L1 hs0 hx1
    obtain ⟨j, y, cap, hj, rfl, rfl, rfl, hown, hB⟩ := hrel
    have HO := Lib.hid hown
    clear hown
    by_cases hlt : j < 4
    · have hd : n32 (s >>> (8 * j)) / 256 = n32 (s >>> (8 * (j + 1))) := by rw [show 8 * (j + 1) = 8 * j + 8 by omega, BitVec.shiftRight_add]; exact shr32 _ 8
      obtain ⟨z, hz⟩ : ∃ z, s >>> (8 * j) = z := ⟨_, rfl⟩
      have h0 := n32_nonneg z
      have hm := low_mod z
      have hm2 := tmod32 z 256
      have hd2 := tdiv32 z 256
      obtain ⟨lj, hlj⟩ : ∃ m, l ++ trailN s j = m := ⟨_, rfl⟩
      obtain ⟨v, hv⟩ : ∃ v, low8 z = v := ⟨_, rfl⟩
      obtain ⟨lm, hlm⟩ : ∃ m, lj ++ [v] = m := ⟨_, rfl⟩
      have hll : lj.length ≤ 100010 := by rw [← hlj]; simp [trailN]; omega
      have HLM : Hid (l ++ trailN s (j + 1) = lm) := by
        show l ++ trailN s (j + 1) = lm
        rw [trailN_succ, ← List.append_assoc, hlj, hz, hv, hlm]
      rw [hlj] at HO ⊢
      rw [hz] at hd ⊢
      rw [hv] at hm
      clear hlj hv hz
      go_wp2_with (at_builtin; refine wpList_app rfl _ _ rfl (B := w.heap.size) (l := lj) (y := some ⟨wr.heap.size, 0, none⟩) (m := [v]) (HO.out.turn ((Turns.refl (fun _ => False) wr).alloc _) (fun _ _ h => h)) rfl rfl (bts_one wr v _ _) (fun h => by cases h) (by simp; omega) hlm (by have := hB.size; simp; omega) ?_; intro x' cap' w3 h1 h2 _; refine Hid.out ?_)
      unfold Hid
      have HN := Lib.hid h1
      have hB4 := (al hB _).trans (h2.mono (Nat.le_refl _))
      clear h1 h2 HO hB hlm
      go_wp2_with fail
      exact ⟨⟨j + 1, x', cap', by omega, by go_num, rfl, by rw [HLM.out], by rw [HLM.out]; exact HN.out, hB4⟩, by simp [intOf]; omega⟩
    · obtain rfl : j = 4 := by omega
      rw [trail4] at HO ⊢
      go_wp2_with fail
      go_ret
      have h := HS.out
      subst h
      exact ⟨_, _, rfl, HO.out, hB⟩

end Go.Proofs.Ytgibfagnfhgelaa
