/- WALKS of the digest layer: the examples of the chapter. -/
import Derived.Test.YtmlmgpliajffnaaDigG
namespace Go.Proofs.Ytmlmgpliajffnaa
open Go.RowKit

set_option maxHeartbeats 2000000 in
theorem awake_any (w : World) : Calls Try.prog 10 #[] w fun e w' => e = .returned (.bool true) ∧ Below w.heap.size w w' := by
  have hcv := fun (w : World) (C : Array Value) (n c : Nat) => Lib.run_convert_bytes_const (P := Try.prog) w 22 5 C n c Try.underlying22 Try.underlying5
  have hp : parseR ⟨#[70, 70]⟩ = none := rfl
  have e0 : (num (Dig.ofL []) == 1628857101415283732) = true := by decide +kernel
  have e1 : (num (Dig.ofL [97]) == 17836450613807704159) = true := by decide +kernel
  have e2 : num (Dig.addL Dig.start [97]) = 11211366877501346434 := by decide +kernel
  have e3 : (255 : Int) = num (255#64) := rfl
  have e4 : (⟨(textL 255#64).toArray⟩ : ByteArray) = ⟨#[48, 48, 48, 48, 48, 48, 48, 48, 48, 48, 48, 48, 48, 48, 102, 102]⟩ := by decide +kernel
  have HP := Lib.hid hp
  have E2 := Lib.hid e2
  have E3 := Lib.hid e3
  have E4 := Lib.hid e4
  clear hp e2 e3 e4
  go_enter Try.func10, Try.ntmps10
  go_wp2_with fail
  refine (parse_any ⟨#[70, 70]⟩ _ (by decide)).mono ?_
  rintro e w1 ⟨⟨d, (⟨hd, _⟩ | ⟨_, rfl⟩)⟩, hb1⟩
  · rw [HP.out] at hd; cases hd
  go_wp2_with fail
  refine (of_any none [] 0 _ (by decide) (Bts.nil _ _)).mono ?_
  rintro e w2 ⟨rfl, hb2⟩
  go_wp2_with fail
  refine (of_any _ [97] 1 _ (by decide) (bts_new _ [97] _ _)).mono ?_
  rintro e w3 ⟨rfl, hb3⟩
  go_wp2_with fail
  refine (new_any _).mono ?_
  rintro e w4 ⟨rfl, hb4⟩
  go_wp2_with fail
  refine (add_any _ _ _ [97] 1 _ (by decide) (by decide) (bts_new _ [97] _ _)).mono ?_
  rintro e w5 ⟨rfl, hb5⟩
  rw [E2.out, show wrap64 (0 + (([97] : List UInt8).length : Int)) = 1 from (wrap64_id (by decide)).trans (by decide)]
  go_wp2_with fail
  have ct := text_any 255#64
  rw [← E3.out, E4.out] at ct
  refine (ct _).mono ?_
  rintro e w6 ⟨rfl, hb6⟩
  clear ct
  go_wp2_with fail
  go_ret
  exact ⟨rfl, thru (thru (thru (thru (thru hb1 hb2) (thru (al (Below.refl _ w2) _) hb3)) hb4) (thru (al (Below.refl _ w4) _) hb5)) hb6⟩

end Go.Proofs.Ytmlmgpliajffnaa
