/- WALKS of the loader: records. -/
import Derived.Test.YtapefonhgkjgnaaGreatLdT
set_option maxRecDepth 20000
namespace Go.Proofs.YtapefonhgkjgnaaGreat
open Go.RowKit

def recF (r : Ld.Rec) (j : Nat) : Value := if j = 0 then .int .i64 (r.bank : Int) else if j = 1 then .int .i64 (r.chunks : Int) else if j = 2 then .int .u32 (r.number : Int) else .int .u64 (num r.dg)
def zRec : Ld.Rec := ⟨0, 0, 0, 0#64⟩
theorem rec_one (r : Ld.Rec) (j : Nat) : (recF r j).oneCell' = true := by
  unfold recF
  split
  · rfl
  · split
    · rfl
    · split <;> rfl
theorem rec_zero : (Tryz.prog.info? 90).map (·.zero) = some (some (aggN 4 (recF zRec))) := by kernel_rfl
theorem rec_struct : (match Tryz.prog.underlying 90 with | some (.struct _) => true | _ => false) = true := by kernel_rfl
theorem rec_size : (Tryz.prog.info? 90).map (·.size) = some 4 := by kernel_rfl
theorem run_loadRec {W : World} {b o : Nat} {v : Nat → Value} (h : Blk W b o 4 v) : (loadVar 90 ⟨b, o, none⟩).run Tryz.prog W = .ok (aggN 4 v) W := by
  have hs := rec_struct
  cases hq : Tryz.prog.underlying 90 with
  | none => rw [hq] at hs; cases hs
  | some d =>
    rw [hq] at hs
    exact run_loadN h hq (by cases d <;> first | rfl | (simp at hs)) rec_size
theorem Blk.bank {W : World} {b : Nat} {r : Ld.Rec} (h : Blk W b 0 4 (recF r)) : W.cell? ⟨b, 0, none⟩ = some (.int .i64 (r.bank : Int)) := (h.at 0 (by omega)).1
theorem Blk.chunks {W : World} {b : Nat} {r : Ld.Rec} (h : Blk W b 0 4 (recF r)) : W.cell? ⟨b, 1, none⟩ = some (.int .i64 (r.chunks : Int)) := (h.at 1 (by omega)).1
theorem Blk.numb {W : World} {b : Nat} {r : Ld.Rec} (h : Blk W b 0 4 (recF r)) : W.cell? ⟨b, 2, none⟩ = some (.int .u32 (r.number : Int)) := (h.at 2 (by omega)).1
theorem Blk.dig {W : World} {b : Nat} {r : Ld.Rec} (h : Blk W b 0 4 (recF r)) : W.cell? ⟨b, 3, none⟩ = some (.int .u64 (num r.dg)) := (h.at 3 (by omega)).1

theorem first_any (b c : Int) (m : Nat) (hm : b = (m : Int)) (h9 : m ≤ 1000) (w : World) : Calls Tryz.prog 47 #[.agg #[.int .i64 b, .int .i64 c]] w fun e w' => e = .returned (.int .i64 ((2 + 16 * m : Nat) : Int)) ∧ Below w.heap.size w w' := by
  subst hm
  obtain ⟨z, hz⟩ : ∃ z, 16 * m = z := ⟨_, rfl⟩
  obtain ⟨y, hy⟩ : ∃ y, 2 + 16 * m = y := ⟨_, rfl⟩
  have w1 : IntKind.i64.wrap (16 * (m : Int)) = (z : Int) := by simp [IntKind.wrap, IntKind.bits, IntKind.signed]; omega
  have w2 : IntKind.i64.wrap (2 + (z : Int)) = (y : Int) := by simp [IntKind.wrap, IntKind.bits, IntKind.signed]; omega
  rw [hy]
  clear hz hy
  go_enter Tryz.func47, Tryz.ntmps47
  go_wp2_with fail
  go_ret
  exact ⟨rfl, al (Below.refl _ _) _⟩

theorem u8_nat (n : Nat) : IntKind.u8.wrap (n : Int) = ((UInt8.ofNat n).toNat : Int) := by
  rw [UInt8.toNat_ofNat']
  simp [IntKind.wrap, IntKind.bits, IntKind.signed]
set_option maxHeartbeats 1000000 in
theorem renc_any (r : Ld.Rec) (_hn : r.number < 4294967296) (w : World) : Calls Tryz.prog 48 #[aggN 4 (recF r)] w (OwnOf (Ld.rbytes r) w) := by
  have li4 := little_any r.number 4
  have l4 := Ld.le_len 4 r.number
  have h1 := u8_nat r.bank
  have h2 := u8_nat r.chunks
  have hd := bytes_any r.dg
  have hdl := Dig.bytes_length r.dg
  have HE : Hid ((Ld.le r.number 4 ++ [UInt8.ofNat r.bank, UInt8.ofNat r.chunks]) ++ Dig.bytes r.dg = Ld.rbytes r) := rfl
  obtain ⟨out, hout⟩ : ∃ A, Ld.rbytes r = A := ⟨_, rfl⟩
  rw [hout] at HE ⊢
  go_enter Tryz.func48, Tryz.ntmps48
  go_wp2_with (refine wpList_boxN rfl _ _ rfl rfl ?_; intro W g hB hz; refine Hid.out ?_)
  unfold Hid
  have c0 := g.bank
  have c1 := g.chunks
  have c2 := g.numb
  have c3 := g.dig
  clear g hout
  obtain ⟨bk, hbk⟩ : ∃ m : Nat, r.bank = m := ⟨_, rfl⟩
  obtain ⟨ck, hck⟩ : ∃ m : Nat, r.chunks = m := ⟨_, rfl⟩
  obtain ⟨nm, hnm⟩ : ∃ m : Nat, r.number = m := ⟨_, rfl⟩
  obtain ⟨dg, hdg⟩ : ∃ m, r.dg = m := ⟨_, rfl⟩
  rw [hbk] at c0 h1 HE
  rw [hck] at c1 h2 HE
  rw [hnm] at c2 li4 l4 HE
  rw [hdg] at c3 hd hdl HE
  clear hbk hck hnm hdg
  obtain ⟨A4, hA4⟩ : ∃ A, Ld.le nm 4 = A := ⟨_, rfl⟩
  rw [hA4] at li4 l4 HE
  obtain ⟨u1, hu1⟩ : ∃ u, UInt8.ofNat bk = u := ⟨_, rfl⟩
  obtain ⟨u2, hu2⟩ : ∃ u, UInt8.ofNat ck = u := ⟨_, rfl⟩
  rw [hu1] at h1 HE
  rw [hu2] at h2 HE
  obtain ⟨D8, hD8⟩ : ∃ A, Dig.bytes dg = A := ⟨_, rfl⟩
  rw [hD8] at hd hdl HE
  obtain ⟨p1, hp1⟩ : ∃ p, A4 ++ [u1, u2] = p := ⟨_, rfl⟩
  rw [hp1] at HE
  have P1 := Lib.hid hp1
  have L1 := Lib.hid (show p1.length = 6 by rw [← hp1, List.length_append, l4]; rfl)
  have L4 := Lib.hid l4
  have L8 := Lib.hid hdl
  clear hA4 hu1 hu2 hD8 hp1 l4 hdl
  go_wp2_with fail
  refine (li4 _ (by omega)).mono ?_
  rintro e w2 ⟨y2, cy2, rfl, y2o, hb2⟩
  have hB2 := hB.trans (hb2.mono (by omega))
  have c0 := later hb2 c0
  have c1 := later hb2 c1
  have c3 := later hb2 c3
  obtain ⟨B, hBe⟩ : ∃ B, w.heap.size + 1 = B := ⟨_, rfl⟩
  obtain ⟨b0, hb0⟩ : ∃ b, w.heap.size = b := ⟨_, rfl⟩
  have z0 : b0 < B := by omega
  have y2o := y2o.weaken (B' := B) (by omega)
  have zW : B ≤ w2.heap.size := by have := hb2.size; omega
  rw [hb0] at c0 c1 c3 hB2 hB ⊢
  clear hb2 li4 c2 hB hz hBe
  go_wp2_with fail
  refine wp_region_schedB (B := B) (fun X => X.cell? ⟨b0, 0, none⟩ = some (.int .i64 (bk : Int)) ∧ X.cell? ⟨b0, 1, none⟩ = some (.int .i64 (ck : Int)) ∧ X.cell? ⟨b0, 3, none⟩ = some (.int .u64 (num dg)) ∧ OwnsB B X y2 cy2 A4 ∧ Below b0 w X ∧ B ≤ X.heap.size) (.one [0, 1, 2, 3, 4, 5, 6, 7, 8, 11, 12] 9 (.one [] 10 (.one [] 13 (.one [] 14 (.done [15]))))) (by kernel_rfl) (by kernel_rfl) (fun _ _ _ _ _ h => h) ⟨by go_simp, by go_simp, by go_simp, y2o.turn (Turns.refl (fun _ => False) w2).drew (fun _ _ h => h), hB2.drew, zW⟩ ?_
  clear c0 c1 c3 y2o hB2 zW
  rintro X ⟨c0, c1, c3, y2o, hB2, zW⟩
  have k0 := plusB_cell (B := B) c0 z0
  have k1 := plusB_cell (B := B) c1 z0
  have k3 := plusB_cell (B := B) c3 z0
  rw [wpSchedB]
  simp only [pick, List.map_cons, List.map_nil, Array.getD_eq_getD_getElem?, List.getElem?_toArray, List.getElem?_cons_succ, List.getElem?_cons_zero, Option.getD_some]
  repeat (first | go_big_quiet_step (fail) | quiet_step (fail))
  refine wpQuiet_nil ?_
  clear k0 k1 k3 c0 c1 c3
  refine heavyB_want (by rfl) (fun K' hK' => ?_)
  go_simp
  refine hK' _ _ ((Below.refl _ _).alloc zW _) ?_
  clear hK' K'
  obtain ⟨Y1, hY1⟩ : ∃ Y, X.alloc (.cells #[.int .u8 (u1.toNat : Int), .int .u8 (u2.toNat : Int)] 5) = Y := ⟨_, rfl⟩
  have hq : Below X.heap.size X Y1 := by rw [← hY1]; exact al (Below.refl _ _) _
  have yb : Bts Y1 (some ⟨X.heap.size, 0, none⟩) [u1, u2] := by rw [← hY1]; exact lit2 X u1 u2
  rw [hY1]
  have y2o := y2o.later hq
  have hB2 := hB2.trans (hq.mono (by omega))
  have zW := Nat.le_trans zW hq.size
  clear hY1 hq
  try simp only [Act.put, List.setIfInBounds_toArray, List.set_cons_zero, List.set_cons_succ]
  rw [wpSchedB]
  simp only [pick, List.map_nil, Array.getD_eq_getD_getElem?, List.getElem?_toArray, List.getElem?_cons_succ, List.getElem?_cons_zero, Option.getD_some]
  refine wpQuiet_nil ?_
  refine heavyB_want (by rfl) (fun K' hK' => ?_)
  refine wp_app _ _ rfl (B := B) (l := A4) y2o (by rw [L4.out]; rfl) (m := [u1, u2]) rfl yb (fun h => by cases h) (by have := L4.out; simp; omega) P1.out zW ?_
  intro x3 k3 Y3 o3 b3 _
  refine hK' _ _ b3 ?_
  clear hK' K'
  have hB3 := hB2.trans (b3.mono (by omega))
  have zW := Nat.le_trans zW b3.size
  clear b3 y2o yb
  try simp only [Act.put, List.setIfInBounds_toArray, List.set_cons_zero, List.set_cons_succ]
  rw [wpSchedB]
  simp only [pick, List.map_nil, Array.getD_eq_getD_getElem?, List.getElem?_toArray, List.getElem?_cons_succ, List.getElem?_cons_zero, Option.getD_some]
  refine wpQuiet_nil ?_
  refine heavyB_want (by rfl) (fun K' hK' => ?_)
  go_simp
  refine (hd _).mono ?_
  rintro e Y4 ⟨y4, rfl, y4b, hb4⟩
  refine hK' _ _ (hb4.mono zW) ?_
  clear hK' K'
  have o3 := o3.later hb4
  have hB4 := hB3.trans (hb4.mono (by omega))
  have zW := Nat.le_trans zW hb4.size
  clear hb4
  try simp only [Act.put, List.setIfInBounds_toArray, List.set_cons_zero, List.set_cons_succ]
  rw [wpSchedB]
  simp only [pick, List.map_nil, Array.getD_eq_getD_getElem?, List.getElem?_toArray, List.getElem?_cons_succ, List.getElem?_cons_zero, Option.getD_some]
  refine wpQuiet_nil ?_
  refine heavyB_want (by rfl) (fun K' hK' => ?_)
  refine wp_app _ _ rfl (B := B) (l := p1) o3 (by rfl) (m := D8) rfl y4b (fun h => by cases h) (by have := L1.out; have := L8.out; omega) HE.out zW ?_
  intro x5 k5 Y5 o5 b5 _
  refine hK' _ _ b5 ?_
  clear hK' K'
  have hB5 := hB4.trans (b5.mono (by omega))
  clear b5 o3 y4b
  have O5 := Lib.hid o5
  clear o5
  try simp only [Act.put, List.setIfInBounds_toArray, List.set_cons_zero, List.set_cons_succ]
  rw [wpSchedB]
  simp only [pick, List.map_cons, List.map_nil, Array.getD_eq_getD_getElem?, List.getElem?_toArray, List.getElem?_cons_succ, List.getElem?_cons_zero, Option.getD_some]
  repeat (first | go_big_quiet_step (fail) | quiet_step (fail))
  refine wpQuiet_nil ?_
  go_wp2_with fail
  go_ret
  exact ⟨x5, k5, rfl, O5.out.weaken (by omega), by rw [hb0]; exact hB5⟩

end Go.Proofs.YtapefonhgkjgnaaGreat
