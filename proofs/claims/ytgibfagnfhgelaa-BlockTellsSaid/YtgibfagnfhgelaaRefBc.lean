/- The reference of the block layer: Do. -/
import Derived.Test.YtgibfagnfhgelaaRefBb
namespace Go.Proofs.Ytgibfagnfhgelaa
open Go.RowKit

theorem doN_lo (d : List UInt8) (j : Nat) (b : List UInt8) (h : j < 54) : doN d (j + 1) b = (doN d j b).set j 255 := by
  rw [doN]; unfold stepA; rw [if_pos h]
theorem doN_hi (d : List UInt8) (i : Nat) (b : List UInt8) : doN d (54 + i + 1) b = (doN d (54 + i) b).set i ((encL d).getD i 0) := by
  rw [doN]; unfold stepA; rw [if_neg (by omega), show 54 + i - 54 = i by omega]
def DoRel (d b : List UInt8) (er : Bool) (k : Nat) (w : World) (g cap : Nat) (x : Option Addr) (c : Nat) (u8 : Value) (wr : World) : Prop :=
  ∃ j : Nat, j ≤ 54 ∧ j ≤ k ∧ u8 = .int .i64 (j : Int) ∧ OwnsB (w.heap.size + 1) wr (some ⟨g, 0, none⟩) cap (doN d j b) ∧ Below w.heap.size w wr ∧ wr.cell? ⟨w.heap.size, 1, none⟩ = some (.bool er) ∧ wr.cell? ⟨w.heap.size, 2, none⟩ = some (.slice x d.length c)
def DoRel2 (d b : List UInt8) (k : Nat) (w w1 : World) (g cap g2 c2 : Nat) (u10 : Value) (wr : World) : Prop :=
  ∃ i : Nat, i ≤ 54 ∧ (i = 0 ∨ 54 + i ≤ k) ∧ u10 = .int .i64 (i : Int) ∧ OwnsB (w.heap.size + 1) wr (some ⟨g, 0, none⟩) cap (doN d (min k (54 + i)) b) ∧ OwnsB w1.heap.size wr (some ⟨g2, 0, none⟩) c2 (encL d) ∧ Below w.heap.size w wr
set_option maxHeartbeats 2000000 in
theorem refDo_any (xb : Option Addr) (b : List UInt8) (cb : Nat) (o : OpV) (k : Nat) (w : World) (hb0 : Bts w xb b) (hxb : xb = none → cb = 0) (h54 : b.length = 54) (ho : OpOk w o) (hd : o.d.length ≤ 48) (hk : k ≤ lenO o.er) :
    Calls Try.prog 39 #[.slice xb 54 cb, .agg #[.int .i64 o.blk, .bool o.er, .slice o.x o.d.length o.c], .int .i64 (k : Int)] w fun e w' => ∃ y cap, e = .returned (.slice y 54 cap) ∧ OwnsB w.heap.size w' y cap (doN o.d k b) ∧ Below w.heap.size w w' := by
  obtain ⟨blk, er, x, c, d⟩ := o
  obtain ⟨hbt, hxn, -⟩ := ho
  dsimp only at hbt hxn hd hk ⊢
  have hB := Below.refl w.heap.size w
  have H54 := Lib.hid h54
  have HD := Lib.hid hd
  clear h54 hd
  have hk108 : k ≤ 108 := by cases er <;> simp [lenO] at hk <;> omega
  go_enter Try.func39, Try.ntmps39
  go_wp2_with (at_builtin; (refine wpList_app rfl _ _ rfl (l := []) (B := w.heap.size + 1) (OwnsB.made' _ (w.heap.size + 1) _ (by simp) (by simp)) rfl (y := xb) (m := b) (c := cb) (by show _ = Value.slice _ b.length _; rw [H54.out]; rfl) (hb0.later (al (al hB _) _)) hxb (by have := H54.out; simp; omega) (List.nil_append b) (by simp) ?_); intro x1 c1 w1 ho hb _; refine Hid.out ?_)
  unfold Hid
  obtain ⟨g, rfl⟩ := ho.some_of (by have := H54.out; omega)
  have HO := Lib.hid ho
  have f1 := later_lt (a := ⟨w.heap.size, 1, none⟩) (v := .bool er) hb (by simp) (by go_simp)
  have f2 := later_lt (a := ⟨w.heap.size, 2, none⟩) (v := .slice x d.length c) hb (by simp) (by go_simp)
  replace hB := (al (al hB _) _).trans (hb.mono (by omega))
  rw [H54.out]
  clear ho hb
  go_wp2_with fail
  go_loopw [8] (fun u8 wr => DoRel d b er k w g c1 x c u8 wr) (fun u8 _ => 54 - (intOf u8).toNat)
  case atStart => exact ⟨0, by omega, by omega, rfl, HO.out, hB, f1, f2⟩
  case round =>
    clear hB f1 f2 HO
    obtain ⟨j, hj, hjk, rfl, hown, hB, f1, f2⟩ := hrel
    have HO := Lib.hid hown
    clear hown
    by_cases hlt : j < 54 ∧ j < k
    · obtain ⟨l1, l2⟩ := hlt
      have d1 : decide ((j : Int) < 54) = true := decide_eq_true (by omega)
      have d2 : decide ((j : Int) < (k : Int)) = true := decide_eq_true (by omega)
      have hce := HO.out.cell j (by rw [doN_len, H54.out]; exact l1)
      have hfe := HO.out.free j
      have hg := (HO.out.low g rfl).1
      have HN : Hid (doN d (j + 1) b = (doN d j b).set j 255) := doN_lo d j b l1
      have ne : ∀ i, (⟨w.heap.size, i, none⟩ : Addr) ≠ ⟨g, j, none⟩ := fun i e => by have := congrArg Addr.block e; simp at this; omega
      have HNE := Lib.hid ne
      have HG := Lib.hid hg
      clear ne hg
      go_wp2_with fail
      exact ⟨⟨j + 1, by omega, by omega, by go_num, by rw [HN.out]; exact HO.out.set j 255, hB.setCell (p := ⟨g, j, none⟩) (by have := HG.out; simp; omega) _, (World.cell?_setCell_other _ _ _ _ (HNE.out 1).symm).trans f1, (World.cell?_setCell_other _ _ _ _ (HNE.out 2).symm).trans f2⟩, by simp [intOf]; omega⟩
    · have HJM : Hid (j = min k 54) := by show _ = _; omega
      have d12 : Hid (j < 54 → decide ((j : Int) < (k : Int)) = false ∧ decide (j < k) = false) := fun h => ⟨decide_eq_false (by omega), decide_eq_false (by omega)⟩
      cases er
      · have hL0 : Hid (doN d (min k (54 + 0)) b = doN d j b) := by show _ = _; rw [HJM.out]
        by_cases l1 : j < 54
        · have d1 : decide ((j : Int) < 54) = true := decide_eq_true (by omega)
          obtain ⟨d2, d2n⟩ := d12.out l1
          clear d12 hlt
          go_wp2_with fail
          refine (refEncode_yes x d c _ (hbt.later hB) hxn HD.out).mono ?_
          rintro e w2 ⟨x2, c2, rfl, ho2, hb⟩
          have hwz := hB.size
          have hB2 := thru hB hb
          have HO2 := Lib.hid (HO.out.turn (Turns.of_below hb (Nat.le_refl _)) (fun _ _ h => h))
          obtain ⟨g2, rfl⟩ := ho2.some_of (by rw [encL_len d HD.out]; omega)
          have HW2 := Lib.hid ho2
          have hgz : g < wr.heap.size := (HO.out.low g rfl).2
          have hg2 : wr.heap.size ≤ g2 := (ho2.low g2 rfl).1
          obtain ⟨wv, hwv⟩ : ∃ v : World, wr = v := ⟨_, rfl⟩
          rw [hwv] at HW2 hgz hg2
          clear ho2 hb HO hB f1 f2 hwv hwz
          go_wp2_with fail
          go_loopw [10] (fun u10 wr => DoRel2 d b k w wv g c1 g2 c2 u10 wr) (fun u10 _ => 54 - (intOf u10).toNat)
          case atStart => exact ⟨0, by omega, .inl rfl, rfl, by rw [hL0.out]; exact HO2.out, HW2.out, hB2⟩
          case round =>
            clear hB2 HO2 HW2 hL0
            obtain ⟨i, hi, hik, rfl, hown, hown2, hB⟩ := hrel
            have HO := Lib.hid hown
            have HW := Lib.hid hown2
            clear hown hown2
            by_cases m1 : i < 54
            · have e1 : decide ((i : Int) < 54) = true := decide_eq_true (by omega)
              by_cases m2 : 54 + i < k
              · have e2 : decide ((54 : Int) + (i : Int) < (k : Int)) = true := decide_eq_true (by omega)
                have hce := HW.out.cell i (by rw [encL_len d HD.out]; exact m1)
                have hfe := HO.out.free i
                have hoc := HO.out.cell i (by rw [doN_len, H54.out]; exact m1)
                have hlo := (HO.out.low g rfl).1
                have HMN : Hid (doN d (min k (54 + (i + 1))) b = (doN d (min k (54 + i)) b).set i ((encL d).getD i 0)) := by
                  show _ = _
                  rw [Nat.min_eq_right (by omega), Nat.min_eq_right (by omega)]
                  exact doN_hi d i b
                obtain ⟨v, hv⟩ : ∃ v, (encL d).getD i 0 = v := ⟨_, rfl⟩
                rw [hv] at hce HMN
                have HLO := Lib.hid hlo
                clear hv hlo
                go_wp2_with fail
                exact ⟨⟨i + 1, by omega, .inr (by omega), by go_num, by rw [HMN.out]; exact HO.out.set i v, HW.out.turn ((Turns.refl (fun b => b = g) _).setCell (p := ⟨g, i, none⟩) (fun _ => rfl) _) (fun b hb e => by have h2 : g2 = b := Option.some.inj hb; omega), hB.setCell (p := ⟨g, i, none⟩) (by have := HLO.out; simp; omega) _⟩, by simp [intOf]; omega⟩
              · have e2 : decide ((54 : Int) + (i : Int) < (k : Int)) = false := decide_eq_false (by omega)
                have e2n : decide (54 + i < k) = false := decide_eq_false (by omega)
                have HK : Hid (doN d (min k (54 + i)) b = doN d k b) := by show _ = _; rw [Nat.min_eq_left (by omega)]
                clear m2 hik
                go_wp2_with fail
                go_ret
                exact ⟨_, _, rfl, by rw [← HK.out]; exact HO.out.weaken (by omega), hB⟩
            · have e1 : decide ((i : Int) < 54) = false := decide_eq_false (by omega)
              have HK : Hid (doN d (min k (54 + i)) b = doN d k b) := by show _ = _; rw [Nat.min_eq_left (by omega)]
              clear hik
              go_wp2_with fail
              go_ret
              exact ⟨_, _, rfl, by rw [← HK.out]; exact HO.out.weaken (by omega), hB⟩
        · have d1 : decide ((j : Int) < 54) = false := decide_eq_false (by omega)
          clear d12 hlt
          go_wp2_with fail
          refine (refEncode_yes x d c _ (hbt.later hB) hxn HD.out).mono ?_
          rintro e w2 ⟨x2, c2, rfl, ho2, hb⟩
          have hwz := hB.size
          have hB2 := thru hB hb
          have HO2 := Lib.hid (HO.out.turn (Turns.of_below hb (Nat.le_refl _)) (fun _ _ h => h))
          obtain ⟨g2, rfl⟩ := ho2.some_of (by rw [encL_len d HD.out]; omega)
          have HW2 := Lib.hid ho2
          have hgz : g < wr.heap.size := (HO.out.low g rfl).2
          have hg2 : wr.heap.size ≤ g2 := (ho2.low g2 rfl).1
          obtain ⟨wv, hwv⟩ : ∃ v : World, wr = v := ⟨_, rfl⟩
          rw [hwv] at HW2 hgz hg2
          clear ho2 hb HO hB f1 f2 hwv hwz
          go_wp2_with fail
          go_loopw [10] (fun u10 wr => DoRel2 d b k w wv g c1 g2 c2 u10 wr) (fun u10 _ => 54 - (intOf u10).toNat)
          case atStart => exact ⟨0, by omega, .inl rfl, rfl, by rw [hL0.out]; exact HO2.out, HW2.out, hB2⟩
          case round =>
            clear hB2 HO2 HW2 hL0
            obtain ⟨i, hi, hik, rfl, hown, hown2, hB⟩ := hrel
            have HO := Lib.hid hown
            have HW := Lib.hid hown2
            clear hown hown2
            by_cases m1 : i < 54
            · have e1 : decide ((i : Int) < 54) = true := decide_eq_true (by omega)
              by_cases m2 : 54 + i < k
              · have e2 : decide ((54 : Int) + (i : Int) < (k : Int)) = true := decide_eq_true (by omega)
                have hce := HW.out.cell i (by rw [encL_len d HD.out]; exact m1)
                have hfe := HO.out.free i
                have hoc := HO.out.cell i (by rw [doN_len, H54.out]; exact m1)
                have hlo := (HO.out.low g rfl).1
                have HMN : Hid (doN d (min k (54 + (i + 1))) b = (doN d (min k (54 + i)) b).set i ((encL d).getD i 0)) := by
                  show _ = _
                  rw [Nat.min_eq_right (by omega), Nat.min_eq_right (by omega)]
                  exact doN_hi d i b
                obtain ⟨v, hv⟩ : ∃ v, (encL d).getD i 0 = v := ⟨_, rfl⟩
                rw [hv] at hce HMN
                have HLO := Lib.hid hlo
                clear hv hlo
                go_wp2_with fail
                exact ⟨⟨i + 1, by omega, .inr (by omega), by go_num, by rw [HMN.out]; exact HO.out.set i v, HW.out.turn ((Turns.refl (fun b => b = g) _).setCell (p := ⟨g, i, none⟩) (fun _ => rfl) _) (fun b hb e => by have h2 : g2 = b := Option.some.inj hb; omega), hB.setCell (p := ⟨g, i, none⟩) (by have := HLO.out; simp; omega) _⟩, by simp [intOf]; omega⟩
              · have e2 : decide ((54 : Int) + (i : Int) < (k : Int)) = false := decide_eq_false (by omega)
                have e2n : decide (54 + i < k) = false := decide_eq_false (by omega)
                have HK : Hid (doN d (min k (54 + i)) b = doN d k b) := by show _ = _; rw [Nat.min_eq_left (by omega)]
                clear m2 hik
                go_wp2_with fail
                go_ret
                exact ⟨_, _, rfl, by rw [← HK.out]; exact HO.out.weaken (by omega), hB⟩
            · have e1 : decide ((i : Int) < 54) = false := decide_eq_false (by omega)
              have HK : Hid (doN d (min k (54 + i)) b = doN d k b) := by show _ = _; rw [Nat.min_eq_left (by omega)]
              clear hik
              go_wp2_with fail
              go_ret
              exact ⟨_, _, rfl, by rw [← HK.out]; exact HO.out.weaken (by omega), hB⟩
      · have hkj : k = j := by simp [lenO] at hk; omega
        clear HJM
        subst hkj
        by_cases l1 : k < 54
        · have d1 : decide ((k : Int) < 54) = true := decide_eq_true (by omega)
          obtain ⟨d2, d2n⟩ := d12.out l1
          clear d12
          go_wp2_with fail
          go_ret
          exact ⟨_, _, rfl, HO.out.weaken (by omega), hB⟩
        · have d1 : decide ((k : Int) < 54) = false := decide_eq_false (by omega)
          clear d12
          go_wp2_with fail
          go_ret
          exact ⟨_, _, rfl, HO.out.weaken (by omega), hB⟩

end Go.Proofs.Ytgibfagnfhgelaa
