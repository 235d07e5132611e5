/- WALKS of the laws of the digest layer: DigestText. -/
import Derived.Test.YtmlmgpliajffnaaLawA5
import Derived.Test.YtmlmgpliajffnaaPureText
import Derived.Outline
namespace Go.Proofs.Ytmlmgpliajffnaa
open Go.RowKit

theorem belN {B : Nat} {w W : World} (h : Below B w W) (n : Nat) : Below B w (W.drewN n) := ⟨h.os, h.tape, h.output, h.size, h.block⟩
def TxRel (d : D64) (w : World) (b : Nat) (i : Value) (wr : World) : Prop := ∃ j : Nat, j ≤ 8 ∧ i = .int .i64 (j : Int) ∧ Bts wr (some ⟨b, 0, none⟩) (Dig.bytes d) ∧ Below w.heap.size w wr
set_option maxHeartbeats 2000000 in
theorem text_law (d : D64) (text : ByteArray) (w : World) (h63 : text.size ≤ 9223372036854775807) : Calls Try.prog 7 #[.int .u64 (num d), .string text] w (YesOf w) := by
  by_cases c0 : 100 < (text.size : Int)
  · have y0_0 : decide (100 < (text.size : Int)) = true := decide_eq_true c0
    go_enter Try.func7, Try.ntmps7
    go_wp2_with fail
    refine (awake_any _).mono ?_
    rintro e w' ⟨rfl, hb⟩
    go_wp2_with fail
    go_ret
    exact ⟨rfl, hb⟩
  · have y0_0 : decide (100 < (text.size : Int)) = false := decide_eq_false c0
    have hB := Below.refl w.heap.size w
    obtain ⟨S, hS⟩ : ∃ S, (⟨(textL d).toArray⟩ : ByteArray) = S := ⟨_, rfl⟩
    have hp : parseR S = some d := by rw [← hS]; exact parse_text d
    have hz : S.size = 16 := by rw [← hS]; simp [ByteArray.size, textL_length]
    have HS := Lib.hid hS
    have HP := Lib.hid hp
    have HZ := Lib.hid hz
    clear hS hp
    go_enter Try.func7, Try.ntmps7
    go_wp2_with fail
    refine (text_any d _).mono ?_
    rintro e w1 ⟨rfl, hb⟩
    replace hB := thru hB hb
    clear hb
    rw [HS.out]
    go_wp2_with fail
    refine (parse_any S _ (by have := HZ.out; omega)).mono ?_
    rintro e w2 ⟨⟨d2, (⟨hd2, rfl⟩ | ⟨hd2, _⟩)⟩, hb⟩
    case inr => rw [HP.out] at hd2; cases hd2
    rw [HP.out] at hd2
    obtain rfl : d = d2 := by simpa using hd2
    replace hB := thru hB hb
    clear hb hd2
    go_wp2_with fail
    refine (parse_any text _ (by omega)).mono ?_
    rintro e w3 ⟨⟨n, (⟨hn, rfl⟩ | ⟨hn, rfl⟩)⟩, hb⟩
    · have ht := text_parse hn
      replace hB := thru hB hb
      have HT := Lib.hid ht
      clear hb hn ht
      go_wp2_with fail
      refine (text_any n _).mono ?_
      rintro e w4 ⟨rfl, hb⟩
      replace hB := thru hB hb
      rw [HT.out]
      clear hb
      go_wp2_with fail
      refine (bytes_any d _).mono ?_
      rintro e w5 ⟨b1, rfl, y1, hb⟩
      replace hB := thru hB hb
      clear hb
      have hbl := Dig.bytes_length d
      rw [hbl]
      go_wp2_with fail
      go_loopw [67] (fun u67 wr => TxRel d w b1 u67 wr) (fun u67 _ => 8 - (intOf u67).toNat)
      case atStart => exact ⟨0, by omega, rfl, y1, hB⟩
      case round =>
        clear hB y1
        obtain ⟨j, hj, rfl, y1, hB⟩ := hrel
        by_cases hlt : j < 8
        · obtain ⟨b, o, hbo, hc⟩ := y1.resolve_left (by intro e; rw [e] at hbl; simp at hbl)
          cases hbo
          have hcj := hc j (by rw [hbl]; exact hlt)
          obtain ⟨v, hv⟩ : ∃ v, (Dig.bytes d).getD j 0 = v := ⟨_, rfl⟩
          rw [hv, Nat.zero_add] at hcj
          have hvn := u8_num v
          unfold encB at hcj
          have HV := Lib.hid hv
          have HY := Lib.hid y1
          clear hv y1 hc
          go_wp2_with fail
          refine (text_any (Dig.ofB v) _).mono ?_
          rintro e w6 ⟨rfl, hb⟩
          obtain ⟨U, hU⟩ : ∃ U, (⟨(textL (Dig.ofB v)).toArray⟩ : ByteArray) = U := ⟨_, rfl⟩
          have hUz : U.size = 16 := by rw [← hU]; simp [ByteArray.size, textL_length]
          rw [hU]
          have HU := Lib.hid hU
          have Y := HY.out.later hb
          have HB := thru hB hb
          clear hU hvn hcj hb hB HY
          go_wp2_with fail
          go_quiet (fail)
          have hx := two_same d v j hlt HV.out
          rw [HU.out, HS.out] at hx
          have HX := Lib.hid hx
          clear hx
          go_wp2_with fail
          · rename_i hw
            exfalso
            rw [HX.out] at hw
            simp at hw
          · exact ⟨⟨j + 1, by omega, by go_num, Y.later (belN (Below.refl _ w6) _), belN HB _⟩, by simp [intOf]; omega⟩
        · obtain rfl : j = 8 := by omega
          clear y1
          go_wp2_with fail
          refine (bytes_any d _).mono ?_
          rintro e w6 ⟨b2, rfl, y2, hb⟩
          replace hB := thru hB hb
          clear hb y2
          go_wp2_with fail
          refine (awake_any _).mono ?_
          rintro e w7 ⟨rfl, hb⟩
          go_wp2_with fail
          go_ret
          exact ⟨rfl, thru hB hb⟩
    · replace hB := thru hB hb
      clear hb hn
      go_wp2_with fail
      refine (bytes_any d _).mono ?_
      rintro e w5 ⟨b1, rfl, y1, hb⟩
      replace hB := thru hB hb
      clear hb
      have hbl := Dig.bytes_length d
      rw [hbl]
      go_wp2_with fail
      go_loopw [67] (fun u67 wr => TxRel d w b1 u67 wr) (fun u67 _ => 8 - (intOf u67).toNat)
      case atStart => exact ⟨0, by omega, rfl, y1, hB⟩
      case round =>
        clear hB y1
        obtain ⟨j, hj, rfl, y1, hB⟩ := hrel
        by_cases hlt : j < 8
        · obtain ⟨b, o, hbo, hc⟩ := y1.resolve_left (by intro e; rw [e] at hbl; simp at hbl)
          cases hbo
          have hcj := hc j (by rw [hbl]; exact hlt)
          obtain ⟨v, hv⟩ : ∃ v, (Dig.bytes d).getD j 0 = v := ⟨_, rfl⟩
          rw [hv, Nat.zero_add] at hcj
          have hvn := u8_num v
          unfold encB at hcj
          have HV := Lib.hid hv
          have HY := Lib.hid y1
          clear hv y1 hc
          go_wp2_with fail
          refine (text_any (Dig.ofB v) _).mono ?_
          rintro e w6 ⟨rfl, hb⟩
          obtain ⟨U, hU⟩ : ∃ U, (⟨(textL (Dig.ofB v)).toArray⟩ : ByteArray) = U := ⟨_, rfl⟩
          have hUz : U.size = 16 := by rw [← hU]; simp [ByteArray.size, textL_length]
          rw [hU]
          have HU := Lib.hid hU
          have Y := HY.out.later hb
          have HB := thru hB hb
          clear hU hvn hcj hb hB HY
          go_wp2_with fail
          go_quiet (fail)
          have hx := two_same d v j hlt HV.out
          rw [HU.out, HS.out] at hx
          have HX := Lib.hid hx
          clear hx
          go_wp2_with fail
          · rename_i hw
            exfalso
            rw [HX.out] at hw
            simp at hw
          · exact ⟨⟨j + 1, by omega, by go_num, Y.later (belN (Below.refl _ w6) _), belN HB _⟩, by simp [intOf]; omega⟩
        · obtain rfl : j = 8 := by omega
          clear y1
          go_wp2_with fail
          refine (bytes_any d _).mono ?_
          rintro e w6 ⟨b2, rfl, y2, hb⟩
          replace hB := thru hB hb
          clear hb y2
          go_wp2_with fail
          refine (awake_any _).mono ?_
          rintro e w7 ⟨rfl, hb⟩
          go_wp2_with fail
          go_ret
          exact ⟨rfl, thru hB hb⟩

end Go.Proofs.Ytmlmgpliajffnaa
