/- WALKS of the sign layer's laws: awake. -/
import Derived.Test.YtjpicnfkmfjnoaaSgnJ
namespace Go.Proofs.Ytjpicnfkmfjnoaa
open Go.RowKit

def iV (u : Nat → Nat) (j : Nat) : Value := .int .i64 ((u j : Nat) : Int)
theorem arrI_zero : (Try.prog.info? 24).map (·.zero) = some (some (aggN 18 (iV fun _ => 0))) := by kernel_rfl
theorem sig_zero : (Try.prog.info? 34).map (·.zero) = some (some (aggN 20 zeroS)) := by kernel_rfl
theorem digits_c (d : D64) (m : Int) (hm : m = num d) (u : Nat → Nat) (hv : ∀ j, j < 18 → Sgn.dig d j = u j) (w : World) : Calls Try.prog 11 #[.int .u64 m] w fun e w' => e = .returned (aggN 18 (iV u)) ∧ Below w.heap.size w w' := by
  subst hm
  refine (digits_any d w).mono ?_
  rintro e w' ⟨rfl, hb⟩
  refine ⟨?_, hb⟩
  rw [← aggN_arr]
  exact congrArg _ (aggN_congr fun j hj => by unfold digV iV; rw [hv j hj])
def dU0 (j : Nat) : Nat := if j = 17 then 15 else 0
def dUF (j : Nat) : Nat := if j < 16 then 15 else 0
def dU1 (j : Nat) : Nat := if j = 0 then 1 else if j < 16 then 0 else if j = 16 then 15 else 14
theorem dig_u0 : ∀ j, j < 18 → Sgn.dig 0#64 j = dU0 j := by decide +kernel
theorem dig_uF : ∀ j, j < 18 → Sgn.dig 18446744073709551615#64 j = dUF j := by decide +kernel
theorem dig_u1 : ∀ j, j < 18 → Sgn.dig 1#64 j = dU1 j := by decide +kernel
theorem Blk.iat {W : World} {b : Nat} {u : Nat → Nat} (h : Blk W b 0 18 (iV u)) (i : Nat) (hi : i < 18) (m : Nat) (hm : u i = m) : W.cell? ⟨b, i, none⟩ = some (.int .i64 (m : Int)) := by
  subst hm; exact (h.at i hi).1

theorem Wts.lt {W : World} {x : Option Addr} {l : List D64} (h : Wts W x l) (h0 : 0 < l.length) : ∀ a, x = some a → a.block < W.heap.size := by
  obtain ⟨b, o, rfl, hc⟩ := h.cell 0 h0
  intro a ha
  cases ha
  exact World.block_lt_of_cell? _ _ hc

set_option maxHeartbeats 2000000 in
theorem awake_any (w : World) : Calls Try.prog 10 #[] w (YesOf w) := by
  go_enter Try.func10, Try.ntmps10
  go_wp2_with fail
  refine (digits_c 0#64 0 (by decide) dU0 dig_u0 _).mono ?_
  rintro e W1 ⟨rfl, hB⟩
  go_wp2_with fail
  refine (digits_c 18446744073709551615#64 18446744073709551615 (by decide) dUF dig_uF _).mono ?_
  rintro e W2 ⟨rfl, hb⟩
  replace hB := thru hB hb
  clear hb
  go_wp2_with fail
  refine (digits_c 1#64 1 (by decide) dU1 dig_u1 _).mono ?_
  rintro e W3 ⟨rfl, hb⟩
  replace hB := thru hB hb
  clear hb
  go_wp2_with (refine wpList_allocTo 1 rfl rfl _ rfl arrI_zero ?_; intro X1 a1 hb hz; refine Hid.out ?_)
  unfold Hid
  try simp only [Act.put, List.setIfInBounds_toArray, List.set_cons_zero, List.set_cons_succ]
  obtain ⟨b1, hb1⟩ : ∃ a, W3.heap.size = a := ⟨_, rfl⟩
  have s1 : w.heap.size ≤ b1 := hb1 ▸ hB.size
  replace hB := thru hB hb
  rw [hb1] at a1 hz ⊢
  clear hb hb1
  go_wp2_with (refine wpList_allocTo 2 rfl rfl _ rfl arrI_zero ?_; intro X2 a2 hb hz2; refine Hid.out ?_)
  unfold Hid
  try simp only [Act.put, List.setIfInBounds_toArray, List.set_cons_zero, List.set_cons_succ]
  obtain ⟨b2, hb2⟩ : ∃ a, X1.heap.size = a := ⟨_, rfl⟩
  have s2 : b1 < b2 := by omega
  replace hB := thru hB hb
  replace a1 := a1.later hb
  rw [hb2] at a2 hz2 ⊢
  clear hb hb2 hz
  go_wp2_with (refine wpList_allocTo 3 rfl rfl _ rfl arrI_zero ?_; intro X3 a3 hb hz3; refine Hid.out ?_)
  unfold Hid
  try simp only [Act.put, List.setIfInBounds_toArray, List.set_cons_zero, List.set_cons_succ]
  obtain ⟨b3, hb3⟩ : ∃ a, X2.heap.size = a := ⟨_, rfl⟩
  have s3 : b2 < b3 := by omega
  replace hB := thru hB hb
  replace a1 := a1.later hb
  replace a2 := a2.later hb
  rw [hb3] at a3 hz3 ⊢
  clear hb hb3 hz2
  have hz : b3 < X3.heap.size := by omega
  clear hz3
  go_wp2_with (refine wpList_storeB rfl rfl _ (.tmp 1) _ rfl (b := b1) (q := 0) rfl rfl a1 (fun _ _ => rfl) arrI_size ?_; intro Y1 t1; refine Hid.out ?_)
  unfold Hid
  replace hB := t1.below _ _ (by omega) hB
  replace a1 := t1.blk
  replace a2 := t1.other (.inl (by omega)) a2
  replace a3 := t1.other (.inl (by omega)) a3
  replace hz := t1.size ▸ hz
  clear t1
  go_wp2_with (refine wpList_storeB rfl rfl _ (.tmp 2) _ rfl (b := b2) (q := 0) rfl rfl a2 (fun _ _ => rfl) arrI_size ?_; intro Y2 t1; refine Hid.out ?_)
  unfold Hid
  replace hB := t1.below _ _ (by omega) hB
  replace a2 := t1.blk
  replace a1 := t1.other (.inl (by omega)) a1
  replace a3 := t1.other (.inl (by omega)) a3
  replace hz := t1.size ▸ hz
  clear t1
  go_wp2_with (refine wpList_storeB rfl rfl _ (.tmp 3) _ rfl (b := b3) (q := 0) rfl rfl a3 (fun _ _ => rfl) arrI_size ?_; intro Y t1; refine Hid.out ?_)
  unfold Hid
  replace hB := t1.below _ _ (by omega) hB
  replace a3 := t1.blk
  replace a1 := t1.other (.inl (by omega)) a1
  replace a2 := t1.other (.inl (by omega)) a2
  replace hz := t1.size ▸ hz
  clear t1
  have A1 := Lib.hid a1
  have A2 := Lib.hid a2
  have A3 := Lib.hid a3
  clear a1 a2 a3
  go_wp2_with fail
  go_loopw [14] (fun u14 wr => ∃ i : Nat, i ≤ 16 ∧ u14 = .int .i64 (i : Int) ∧ wr = Y) (fun u14 _ => 16 - (intOf u14).toNat)
  case atStart => exact ⟨0, by omega, rfl, rfl⟩
  case round =>
    obtain ⟨i, hi, rfl, rfl⟩ := hrel
    by_cases hlt : i < 16
    · have hki : decide ((i : Int) < 16) = true := by simp; omega
      have c1 := A1.out.iat i (by omega) 0 (by unfold dU0; rw [if_neg (by omega)])
      have c2 := A2.out.iat i (by omega) 15 (by unfold dUF; rw [if_pos (by omega)])
      by_cases h0 : i = 0
      · subst h0
        go_wp2_with fail
        exact ⟨⟨1, by omega, by go_num, trivial⟩, by simp [intOf]⟩
      · have c3 := A3.out.iat i (by omega) 0 (by unfold dU1; rw [if_neg h0, if_pos hlt])
        have hki2 : decide ((0 : Int) < (i : Int)) = true := by simp; omega
        go_wp2_with fail
        exact ⟨⟨i + 1, by omega, by go_num, trivial⟩, by simp [intOf]; omega⟩
    · obtain rfl : i = 16 := by omega
      rw [show ((16 : Nat) : Int) = 16 from rfl]
      have HP : Hid (num (Sgn.pub 7#64 (u8z 0) (u8z (0 / 256))) = num (Sgn.node 7#64 0 0)) := rfl
      obtain ⟨y, hy⟩ : ∃ y, Sgn.node 7#64 0 0 = y := ⟨_, rfl⟩
      go_wp2_with fail
      refine (root_ok 7#64 0 (by omega) _).mono ?_
      rintro e W4 ⟨rfl, hb⟩
      rw [hy]
      rw [hy] at HP
      clear hy
      replace hB := thru hB hb
      have A1' := Lib.hid (A1.out.later hb)
      have A2' := Lib.hid (A2.out.later hb)
      have A3' := Lib.hid (A3.out.later hb)
      clear hb A1 A2 A3
      go_wp2_with fail
      refine (sign_ok 7#64 2 3 99#64 (by omega) (by decide) _).mono ?_
      rintro e W5 ⟨x, c, rfl, ho, hb⟩
      obtain ⟨f, hf⟩ : ∃ f, (fun i => Sgn.val 7#64 (u8z ((3 : Nat) : Int)) (u8z (((3 : Nat) : Int) / 256)) i (Sgn.dig 99#64 i)) = f := ⟨_, rfl⟩
      obtain ⟨p, hp⟩ : ∃ p, Sgn.path 7#64 2 3 = p := ⟨_, rfl⟩
      have hl : p.length = 2 := by rw [← hp]; exact Sgn.path_length _ _ _
      rw [hf]
      rw [hp] at ho
      have HL := Lib.hid hl
      clear hf hp hl
      have h5 := ho.wts
      replace hB := thru hB hb
      replace A1' := Lib.hid (A1'.out.later hb)
      replace A2' := Lib.hid (A2'.out.later hb)
      replace A3' := Lib.hid (A3'.out.later hb)
      clear ho hb
      go_wp2_with (refine wpList_allocTo 7 rfl rfl _ rfl sig_zero ?_; intro X4 a4 hb hz4; refine Hid.out ?_)
      unfold Hid
      try simp only [Act.put, List.setIfInBounds_toArray, List.set_cons_zero, List.set_cons_succ]
      obtain ⟨b4, hb4⟩ : ∃ a, W5.heap.size = a := ⟨_, rfl⟩
      have s4 : b3 < b4 := hb4 ▸ World.block_lt_of_cell? _ _ (A3'.out.at 0 (by omega)).1
      have s5 : w.heap.size ≤ b4 := hb4 ▸ hB.size
      have hx4 : ∀ a, x = some a → a.block < b4 := fun a ha => hb4 ▸ h5.lt (by have := HL.out; omega) a ha
      replace hB := thru hB hb
      replace h5 := h5.later hb
      replace A1' := Lib.hid (A1'.out.later hb)
      replace A2' := Lib.hid (A2'.out.later hb)
      replace A3' := Lib.hid (A3'.out.later hb)
      rw [hb4] at a4 hz4 ⊢
      clear hb hb4
      have HE : ∀ W, Wts W x p → Calls Try.prog 28 #[aggN 20 (sigV 3 f x 2 c)] W fun e w' => ∃ y cy, e = .returned (.tuple #[.slice y 162 cy, .int .i64 0]) ∧ Below W.heap.size W w' := fun W h => by
        have := encode_ok 3 f p x c W h (by rw [HL.out]; omega) (by rw [HL.out]; decide)
        rw [HL.out] at this
        refine this.mono ?_
        rintro e w' ⟨y, cy, rfl, _, hb⟩
        exact ⟨y, cy, by rw [Sgn.enc_length, HL.out], hb⟩
      go_wp2_with (refine wpList_storeB rfl rfl _ (.tmp 7) _ rfl (b := b4) (q := 0) rfl (v := sigV 3 f x 2 c) rfl a4 (fun _ _ => sig_one _ _ _ _ _ _) sig_size ?_; intro Y4 t1; refine Hid.out ?_)
      unfold Hid
      replace hB := t1.below _ _ (by omega) hB
      replace a4 := t1.blk
      have g1 := t1.other (.inl (by omega)) A1'.out
      have g2 := t1.other (.inl (by omega)) A2'.out
      have g3 := t1.other (.inl (by omega)) A3'.out
      have ht := t1.turns (fun b => b = b4) X4 (fun _ => rfl) (Turns.refl _ _)
      have h6 := h5.turn ht (fun a ha e => by have h7 := hx4 a ha; have e' : a.block = b4 := e; omega)
      clear t1 ht h5 hx4 A1' A2' A3' hz hz4 s1 s2 s3 s4 s5
      have l4 := run_loadS a4
      go_wp2_with (refine wpList_loadN rfl _ _ rfl (b := b4) (q := 0) rfl l4 ?_)
      refine (HE _ h6).mono ?_
      rintro e W6 ⟨y', cy, rfl, hb⟩
      replace hB := thru hB hb
      have c4 := (a4.later hb).at 19 (by omega)
      have c19 : W6.cell? ⟨b4, 19, none⟩ = some (.slice x 2 c) := c4.1
      have a16 : W6.cell? ⟨b1, 16, none⟩ = some (.int .i64 0) := (g1.later hb).iat 16 (by omega) 0 rfl
      have a17 : W6.cell? ⟨b1, 17, none⟩ = some (.int .i64 15) := (g1.later hb).iat 17 (by omega) 15 rfl
      have e16 : W6.cell? ⟨b2, 16, none⟩ = some (.int .i64 0) := (g2.later hb).iat 16 (by omega) 0 rfl
      have e17 : W6.cell? ⟨b2, 17, none⟩ = some (.int .i64 0) := (g2.later hb).iat 17 (by omega) 0 rfl
      have i0 : W6.cell? ⟨b3, 0, none⟩ = some (.int .i64 1) := (g3.later hb).iat 0 (by omega) 1 rfl
      have i16 : W6.cell? ⟨b3, 16, none⟩ = some (.int .i64 15) := (g3.later hb).iat 16 (by omega) 15 rfl
      have i17 : W6.cell? ⟨b3, 17, none⟩ = some (.int .i64 14) := (g3.later hb).iat 17 (by omega) 14 rfl
      clear c4 hb g1 g2 g3 a4 l4 h6 HE HL
      go_wp2_with fail
      refine (Public_any 7#64 0 _).mono ?_
      rintro e W7 ⟨rfl, hb⟩
      rw [HP.out]
      replace hB := thru hB hb
      have j19 := later hb c19
      clear hb c19 a16 a17 e16 e17 i0 i16 i17
      go_wp2_with fail
      go_ret
      exact ⟨rfl, hB⟩

end Go.Proofs.Ytjpicnfkmfjnoaa
