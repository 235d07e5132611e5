/- WALKS of the frame layer: the reference of Burst. -/
import Derived.Test.YtjnjjnkanbnliaaDoorFraJ
namespace Go.Proofs.YtjnjjnkanbnliaaDoor
open Go.RowKit

theorem byte_bit (b : UInt8) (k : Nat) : (b.toNat / 2 ^ k) % 2 = if b.toBitVec.getLsbD k then 1 else 0 := by
  have : b.toBitVec.getLsbD k = (b.toNat / 2 ^ k % 2 == 1) := by
    unfold BitVec.getLsbD
    rw [Nat.testBit_eq_decide_div_mod_eq]
    show decide (b.toNat / 2 ^ k % 2 = 1) = _
    rfl
  rw [this]
  rcases Nat.mod_two_eq_zero_or_one (b.toNat / 2 ^ k) with h | h <;> rw [h] <;> rfl
theorem byte_step (b : UInt8) (k : Nat) : b.toNat / 2 ^ k = 2 * (b.toNat / 2 ^ (k + 1)) + (if b.toBitVec.getLsbD k then 1 else 0) := by
  rw [← byte_bit, Nat.pow_succ, ← Nat.div_div_eq_div_mul]; omega
theorem b2w_one (b : Bool) : (n32 (Crc.b2w b) == 1) = b := by cases b <;> decide

def RbIn (b : UInt8) (u9 u10 : Value) : Prop := ∃ k : Nat, k ≤ 8 ∧ u10 = .int .i64 ((k : Int) - 1) ∧ u9 = .int .i64 ((b.toNat / 2 ^ k : Nat) : Int)
def RbRel (bl : List UInt8) (w : World) (u7 u8 : Value) (wr : World) : Prop :=
  ∃ (i : Nat) (x : Option Addr) (c : Nat), i ≤ bl.length ∧ u8 = .int .i64 (i : Int) ∧ u7 = .slice x (bl.take i).length c ∧ OwnsB w.heap.size wr x c (bl.take i) ∧ Below w.heap.size w wr

set_option maxRecDepth 100000 in
set_option maxHeartbeats 4000000 in
theorem refburst_any (x : Option Addr) (l : List UInt8) (c : Nat) (at_ : Int) (m : W32) (w : World) (hx : Bts w x l) (hl : l.length ≤ 1000) (_hat : -9223372036854775808 ≤ at_ ∧ at_ ≤ 9223372036854775807) :
    Calls Tryd.prog 22 #[.slice x l.length c, .int .i64 at_, .int .u32 (n32 m)] w (CloneOf (Crc.burst m at_ l) w) := by
  obtain ⟨bl, hbl⟩ : ∃ b, Crc.burst m at_ l = b := ⟨_, rfl⟩
  have hbn : bl.length = l.length := by rw [← hbl]; exact Crc.burst_length _ _ _
  have hbits : ∀ i, i < 8 * l.length → Crc.bitAt bl i = (Crc.bitAt l i ^^ Crc.inBu m at_ i) := fun i hi => by rw [← hbl]; exact Crc.bitAt_burst m at_ l i hi
  have HBITS := Lib.hid hbits
  have HBN := Lib.hid hbn
  rw [hbl]
  have e7 := Lib.hid (show (7 : Int) = ((8 : Nat) : Int) - 1 by omega)
  clear hbits hbl
  go_enter Tryd.func22, Tryd.ntmps22
  go_wp2_with fail
  go_loopw [7, 8] (fun u7 u8 wr => RbRel bl w u7 u8 wr) (fun _ u8 _ => l.length - (intOf u8).toNat)
  case atStart => exact ⟨0, none, 0, by omega, rfl, rfl, OwnsB.nil _ _, Below.refl _ _⟩
  case round =>
    obtain ⟨i, y, cy, hi, rfl, rfl, ho, hB⟩ := hrel
    have HO := Lib.hid ho
    clear ho
    by_cases hlt : i < l.length
    · have hkb : decide ((i : Int) < (l.length : Int)) = true := by simp; omega
      obtain ⟨g, o, rfl, hcl⟩ := (hx.later hB).resolve_left (by intro e; subst e; simp at hlt)
      have ci := hcl i hlt
      unfold encB at ci
      obtain ⟨u, hu⟩ : ∃ u, l.getD i 0 = u := ⟨_, rfl⟩
      obtain ⟨b, hb⟩ : ∃ u, bl.getD i 0 = u := ⟨_, rfl⟩
      rw [hu] at ci
      have hbb : ∀ k, k < 8 → b.toBitVec.getLsbD k = (u.toBitVec.getLsbD k ^^ Crc.inBu m at_ (8 * i + k)) := fun k hk => by
        have := HBITS.out (8 * i + k) (by omega)
        unfold Crc.bitAt at this
        rwa [show (8 * i + k) / 8 = i by omega, show (8 * i + k) % 8 = k by omega, hu, hb] at this
      have HBB := Lib.hid hbb
      have hts := take_succ_getD bl i (by omega)
      rw [hb] at hts
      have HTS := Lib.hid hts
      have hb256 := b.toNat_lt
      have h0b : b.toNat / 2 ^ 8 = 0 := by omega
      have H0B := Lib.hid h0b
      clear hcl hu hb hbb hts h0b hbn
      go_wp2_with fail
      go_loop [9, 10] (fun u9 u10 => RbIn b u9 u10) (fun _ u10 => (intOf u10 + 1).toNat)
      case atStart => exact ⟨8, by omega, by rw [← e7.out], by rw [H0B.out]; rfl⟩
      case round =>
        obtain ⟨k', hk', rfl, rfl⟩ := hrel
        cases k' with
        | zero =>
          have hv0 : b.toNat / 2 ^ 0 = b.toNat := by simp
          rw [hv0]
          have d0 : decide (0 ≤ ((0 : Nat) : Int) - 1) = false := by decide
          have hz0 : ((0 : Nat) : Int) - 1 = -1 := by omega
          obtain ⟨lj, hlj⟩ : ∃ t, bl.take i = t := ⟨_, rfl⟩
          obtain ⟨lm, hlm⟩ : ∃ t, lj ++ [b] = t := ⟨_, rfl⟩
          have hll : lj.length ≤ 1000 := by rw [← hlj]; simp; omega
          have HLM : Hid (bl.take (i + 1) = lm) := by show _ = _; rw [HTS.out, hlj, hlm]
          rw [hlj] at HO ⊢
          have hilt : i + 1 ≤ bl.length := by have := HBN.out; omega
          clear hlj HTS H0B hv0
          go_wp2_with (at_builtin; refine wpList_app rfl _ _ rfl (B := w.heap.size) (l := lj) (y := some ⟨wr.heap.size, 0, none⟩) (m := [b]) (HO.out.turn ((Turns.refl (fun _ => False) wr).alloc _) (fun _ _ h => h)) rfl rfl (bts_one wr b _ _) (fun h => by cases h) (by simp; omega) hlm (by have := hB.size; simp; omega) ?_; intro x' cap' w3 h1 h2 _; refine Hid.out ?_)
          unfold Hid
          have HN := Lib.hid h1
          have hB4 := (al hB _).trans (h2.mono (Nat.le_refl _))
          clear h1 h2 HO hB hlm
          go_wp2_with fail
          exact ⟨⟨i + 1, x', cap', hilt, by go_num, by rw [HLM.out], by rw [HLM.out]; exact HN.out, hB4⟩, by simp [intOf]; omega⟩
        | succ k =>
          have hkz : ((k + 1 : Nat) : Int) - 1 = (k : Int) := by omega
          rw [hkz]
          have hk8 : k < 8 := by omega
          have hbk := HBB.out k hk8
          have hst := byte_step b k
          obtain ⟨va, hva⟩ : ∃ v, b.toNat / 2 ^ (k + 1) = v := ⟨_, rfl⟩
          obtain ⟨vb, hvb⟩ : ∃ v, b.toNat / 2 ^ k = v := ⟨_, rfl⟩
          have hva8 : va ≤ 255 := by rw [← hva]; exact Nat.le_trans (Nat.div_le_self _ _) (by omega)
          have hub := byte_bit u k
          obtain ⟨a, ha⟩ : ∃ v, u.toNat / 2 ^ k = v := ⟨_, rfl⟩
          have ha8 : a ≤ 255 := by rw [← ha]; exact Nat.le_trans (Nat.div_le_self _ _) (by have := u.toNat_lt; omega)
          have hsh : (u.toNat : Int) / 2 ^ k = (a : Int) := by rw [← ha, Int.natCast_ediv, Int.natCast_pow]; rfl
          rw [ha] at hub
          rw [hva, hvb] at hst
          rw [hva]
          have HVB := Lib.hid hvb
          obtain ⟨nn, hnn⟩ : ∃ n, 8 * i + k = n := ⟨_, rfl⟩
          have hni : 8 * (i : Int) + (k : Int) = (nn : Int) := by omega
          have hnb : nn ≤ 9000 := by omega
          rw [hnn] at hbk
          have dk : decide (0 ≤ (k : Int)) = true := by simp
          obtain ⟨lb, hlb⟩ : ∃ t, u.toBitVec.getLsbD k = t := ⟨_, rfl⟩
          rw [hlb] at hub hbk
          have hmeas : Hid (((k : Int) - 1 + 1).toNat < ((k : Int) + 1).toNat) := by show _ < _; omega
          clear hva hvb ha hnn hlb
          by_cases c1 : at_ ≤ (nn : Int)
          · by_cases c2 : (nn : Int) - 31 ≤ at_
            · obtain ⟨s, hs⟩ : ∃ s : Nat, (nn : Int) - at_ = (s : Int) := ⟨((nn : Int) - at_).toNat, by omega⟩
              have hin : Crc.inBu m at_ nn = m.getLsbD s := by
                unfold Crc.inBu
                rw [hs, Int.toNat_natCast, decide_eq_true (by omega), Bool.true_and]
              have hs31 : s ≤ 31 := by omega
              have hsm : n32 m / 2 ^ s = n32 (m >>> s) := by rw [← shr32]; simp
              have hmod := mod2_32 (m >>> s)
              have hgs : (m >>> s).getLsbD 0 = m.getLsbD s := by simp
              rw [hgs] at hmod
              obtain ⟨mb, hmb⟩ : ∃ t, m.getLsbD s = t := ⟨_, rfl⟩
              obtain ⟨z, hz⟩ : ∃ t, m >>> s = t := ⟨_, rfl⟩
              rw [hmb] at hmod hin
              rw [hz] at hmod hsm
              have h0z := n32_nonneg z
              have hm2 := tmod32 z 2
              have hone := b2w_one mb
              rw [hin] at hbk
              have d1 : decide (at_ ≤ (nn : Int)) = true := decide_eq_true c1
              have d2 : decide ((nn : Int) - 31 ≤ at_) = true := decide_eq_true c2
              clear hgs hmb hz hin
              cases lb <;> cases mb
              · have hbit : b.toBitVec.getLsbD k = false := by rw [hbk]; rfl
                have hm0 : (a : Int) % 2 = 0 := by have := hub; simp at this; omega
                rw [hbit] at hst
                have hev : 2 * (va : Int) = (vb : Int) := by simp at hst; omega
                have HEV := Lib.hid hev
                clear hbit hbk hub hst
                have hev0 := HEV.out
                go_wp2_with fail
                exact ⟨⟨k, by omega, rfl, by first | (rw [HVB.out]; done) | (rw [HVB.out, ← HEV.out]; simp)⟩, by first | (simp [intOf]; done) | simpa [intOf] using hmeas.out⟩
              · have hbit : b.toBitVec.getLsbD k = true := by rw [hbk]; rfl
                have hm0 : (a : Int) % 2 = 0 := by have := hub; simp at this; omega
                rw [hbit] at hst
                have hev : 2 * (va : Int) + 1 = (vb : Int) := by simp at hst; omega
                have HEV := Lib.hid hev
                clear hbit hbk hub hst
                go_wp2_with fail
                exact ⟨⟨k, by omega, rfl, by first | (rw [HVB.out]; done) | (rw [HVB.out, ← HEV.out]; simp)⟩, by first | (simp [intOf]; done) | simpa [intOf] using hmeas.out⟩
              · have hbit : b.toBitVec.getLsbD k = true := by rw [hbk]; rfl
                have hm0 : (a : Int) % 2 = 1 := by have := hub; simp at this; omega
                rw [hbit] at hst
                have hev : 2 * (va : Int) + 1 = (vb : Int) := by simp at hst; omega
                have HEV := Lib.hid hev
                clear hbit hbk hub hst
                go_wp2_with fail
                exact ⟨⟨k, by omega, rfl, by first | (rw [HVB.out]; done) | (rw [HVB.out, ← HEV.out]; simp)⟩, by first | (simp [intOf]; done) | simpa [intOf] using hmeas.out⟩
              · have hbit : b.toBitVec.getLsbD k = false := by rw [hbk]; rfl
                have hm0 : (a : Int) % 2 = 1 := by have := hub; simp at this; omega
                rw [hbit] at hst
                have hev : 2 * (va : Int) = (vb : Int) := by simp at hst; omega
                have HEV := Lib.hid hev
                clear hbit hbk hub hst
                have hev0 := HEV.out
                go_wp2_with fail
                exact ⟨⟨k, by omega, rfl, by first | (rw [HVB.out]; done) | (rw [HVB.out, ← HEV.out]; simp)⟩, by first | (simp [intOf]; done) | simpa [intOf] using hmeas.out⟩
            · have hin : Crc.inBu m at_ nn = false := by
                unfold Crc.inBu
                rw [decide_eq_false (by omega), Bool.false_and]
              rw [hin] at hbk
              have d1 : decide (at_ ≤ (nn : Int)) = true := decide_eq_true c1
              have d2 : decide ((nn : Int) - 31 ≤ at_) = false := decide_eq_false c2
              clear hin
              cases lb
              · have hbit : b.toBitVec.getLsbD k = false := by rw [hbk]; rfl
                have hm0 : (a : Int) % 2 = 0 := by have := hub; simp at this; omega
                rw [hbit] at hst
                have hev : 2 * (va : Int) = (vb : Int) := by simp at hst; omega
                have HEV := Lib.hid hev
                clear hbit hbk hub hst
                have hev0 := HEV.out
                go_wp2_with fail
                exact ⟨⟨k, by omega, rfl, by first | (rw [HVB.out]; done) | (rw [HVB.out, ← HEV.out]; simp)⟩, by first | (simp [intOf]; done) | simpa [intOf] using hmeas.out⟩
              · have hbit : b.toBitVec.getLsbD k = true := by rw [hbk]; rfl
                have hm0 : (a : Int) % 2 = 1 := by have := hub; simp at this; omega
                rw [hbit] at hst
                have hev : 2 * (va : Int) + 1 = (vb : Int) := by simp at hst; omega
                have HEV := Lib.hid hev
                clear hbit hbk hub hst
                go_wp2_with fail
                exact ⟨⟨k, by omega, rfl, by first | (rw [HVB.out]; done) | (rw [HVB.out, ← HEV.out]; simp)⟩, by first | (simp [intOf]; done) | simpa [intOf] using hmeas.out⟩
          · have hin : Crc.inBu m at_ nn = false := by
              unfold Crc.inBu
              rw [decide_eq_false (by omega), Bool.false_and]
            rw [hin] at hbk
            have d1 : decide (at_ ≤ (nn : Int)) = false := decide_eq_false c1
            clear hin
            cases lb
            · have hbit : b.toBitVec.getLsbD k = false := by rw [hbk]; rfl
              have hm0 : (a : Int) % 2 = 0 := by have := hub; simp at this; omega
              rw [hbit] at hst
              have hev : 2 * (va : Int) = (vb : Int) := by simp at hst; omega
              have HEV := Lib.hid hev
              clear hbit hbk hub hst
              have hev0 := HEV.out
              go_wp2_with fail
              exact ⟨⟨k, by omega, rfl, by first | (rw [HVB.out]; done) | (rw [HVB.out, ← HEV.out]; simp)⟩, by first | (simp [intOf]; done) | simpa [intOf] using hmeas.out⟩
            · have hbit : b.toBitVec.getLsbD k = true := by rw [hbk]; rfl
              have hm0 : (a : Int) % 2 = 1 := by have := hub; simp at this; omega
              rw [hbit] at hst
              have hev : 2 * (va : Int) + 1 = (vb : Int) := by simp at hst; omega
              have HEV := Lib.hid hev
              clear hbit hbk hub hst
              go_wp2_with fail
              exact ⟨⟨k, by omega, rfl, by first | (rw [HVB.out]; done) | (rw [HVB.out, ← HEV.out]; simp)⟩, by first | (simp [intOf]; done) | simpa [intOf] using hmeas.out⟩
    · obtain rfl : i = l.length := by have := HBN.out; omega
      rw [← HBN.out, List.take_length] at HO ⊢
      go_wp2_with fail
      go_ret
      exact ⟨y, cy, rfl, HO.out, hB⟩

end Go.Proofs.YtjnjjnkanbnliaaDoor
