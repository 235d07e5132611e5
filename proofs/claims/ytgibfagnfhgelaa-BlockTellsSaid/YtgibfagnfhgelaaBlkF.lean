/- WALKS of the block layer: valid. -/
import Derived.Test.YtgibfagnfhgelaaBlkE
namespace Go.Proofs.Ytgibfagnfhgelaa
open Go.RowKit

/-- Operations that a valid store takes. -/
def vldO (ls : List (List UInt8)) (os : List OpV) : Bool := vldS ls && !os.any fun o => badO ls.length o
set_option maxHeartbeats 1000000 in
theorem indexo_any (x : Option Addr) (os : List OpV) (c b n cx : Nat) (xs : Option Addr) (w : World) (hs : Ops w x os) (hn : os.length ≤ 1000) (hc : w.cell? ⟨b, 0, none⟩ = some (.slice xs n cx)) : Calls Try.prog 47 #[.slice x os.length c, .func (.func 41) #[] #[.pointer (some ⟨b, 0, none⟩)]] w fun e w' => (∃ k : Int, e = .returned (.int .i64 k) ∧ decide (0 ≤ k) = os.any (fun o => badO n o)) ∧ Below w.heap.size w w' := by
  have hB := Below.refl w.heap.size w
  go_enter Try.func47, Try.ntmps47
  go_wp2_with fail
  go_loopw [8] (fun u8 wr => ∃ j : Nat, j ≤ os.length ∧ u8 = .int .i64 (j : Int) ∧ (∀ i, i < j → badO n (os.getD i op0) = false) ∧ Below w.heap.size w wr) (fun u8 _ => os.length - (intOf u8).toNat)
  case atStart => exact ⟨0, by omega, rfl, fun i hi => by omega, hB⟩
  case round =>
    clear hB
    obtain ⟨j, hj, rfl, hgood, hB⟩ := hrel
    by_cases hlt : j < os.length
    · have d1 : decide ((j : Int) < (os.length : Int)) = true := by simp; omega
      obtain ⟨b0, o0, rfl, hc0, hc1, hc2, hok⟩ := (hs.later hB).at j hlt
      obtain ⟨q, hq⟩ : ∃ q, badO n (os.getD j op0) = q := ⟨_, rfl⟩
      have HQ := Lib.hid hq
      have hcb := later hB hc
      obtain ⟨oj, hoj⟩ : ∃ r, os.getD j op0 = r := ⟨_, rfl⟩
      rw [hoj] at hc0 hc1 hc2 hq
      have HQ2 := Lib.hid hq
      have HG := Lib.hid hgood
      clear hq hgood hoj hok
      go_wp2_with fail
      refine (valid2_any oj b n cx xs _ hcb).mono ?_
      rintro e w' ⟨rfl, hb⟩
      rw [HQ2.out]
      replace hB := thru hB hb
      clear hc0 hc1 hc2 hcb hb
      cases q
      · go_wp2_with fail
        exact ⟨⟨j + 1, by omega, by go_num, fun i hi => by
          by_cases h : i = j
          · subst h; exact HQ.out
          · exact HG.out i (by omega), hB⟩, by simp [intOf]; omega⟩
      · go_wp2_with fail
        go_ret
        exact ⟨⟨_, rfl, by rw [any_of_bad (fun o : OpV => badO n o) os j op0 hlt HQ.out]; simp⟩, hB⟩
    · obtain rfl : j = os.length := by omega
      have HG := Lib.hid hgood
      clear hgood
      go_wp2_with fail
      go_ret
      exact ⟨⟨_, rfl, by rw [any_none (fun o : OpV => badO n o) os op0 HG.out]; simp⟩, hB⟩
set_option maxHeartbeats 400000 in
theorem containso_any (x : Option Addr) (os : List OpV) (c b n cx : Nat) (xs : Option Addr) (w : World) (hs : Ops w x os) (hn : os.length ≤ 1000) (hc : w.cell? ⟨b, 0, none⟩ = some (.slice xs n cx)) : Calls Try.prog 42 #[.slice x os.length c, .func (.func 41) #[] #[.pointer (some ⟨b, 0, none⟩)]] w fun e w' => e = .returned (.bool (os.any (fun o => badO n o))) ∧ Below w.heap.size w w' := by
  obtain ⟨q, hq⟩ : ∃ q, os.any (fun o => badO n o) = q := ⟨_, rfl⟩
  have HQ := Lib.hid hq
  rw [hq]
  clear hq
  go_enter Try.func42, Try.ntmps42
  go_wp2_with fail
  refine (indexo_any x os c b n cx xs w hs hn hc).mono ?_
  rintro e w' ⟨⟨k, rfl, hk⟩, hb⟩
  rw [HQ.out] at hk
  go_wp2_with fail
  go_ret
  exact ⟨rfl, hb⟩
set_option maxHeartbeats 1000000 in
theorem validops_any (x : Option Addr) (rs : List Rw) (c : Nat) (y : Option Addr) (os : List OpV) (cy : Nat) (w : World) (hs : Rws w x rs) (hn : rs.length ≤ 1000) (ho : Ops w y os) (hm : os.length ≤ 1000) : Calls Try.prog 32 #[.agg #[.slice x rs.length c], .slice y os.length cy] w fun e w' => e = .returned (.bool (vldO (rs.map (·.l)) os)) ∧ Below w.heap.size w w' := by
  have hB := Below.refl w.heap.size w
  have hl : (rs.map (·.l)).length = rs.length := List.length_map ..
  unfold vldO
  rw [hl]
  obtain ⟨q, hq⟩ : ∃ q, vldS (rs.map (·.l)) = q := ⟨_, rfl⟩
  obtain ⟨p, hp⟩ : ∃ p, os.any (fun o => badO rs.length o) = p := ⟨_, rfl⟩
  have HQ := Lib.hid hq
  have HP := Lib.hid hp
  rw [hq, hp]
  clear hq hp hl
  go_enter Try.func32, Try.ntmps32
  go_wp2_with fail
  refine (valid_any x rs c _ (hs.later (al hB _)) hn).mono ?_
  rintro e w' ⟨rfl, hb⟩
  rw [HQ.out]
  have hcb := later (a := ⟨w.heap.size, 0, none⟩) (v := .slice x rs.length c) hb (by go_simp)
  replace hB := thru (al hB _) hb
  clear hb
  cases q
  · go_wp2_with fail
    go_ret
    exact ⟨rfl, hB⟩
  · go_wp2_with fail
    refine (containso_any y os cy w.heap.size rs.length c x _ (ho.later hB) hm hcb).mono ?_
    rintro e w2 ⟨rfl, hb⟩
    rw [HP.out]
    go_wp2_with fail
    go_ret
    exact ⟨by cases p <;> rfl, thru hB hb⟩

end Go.Proofs.Ytgibfagnfhgelaa
