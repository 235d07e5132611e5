/- WALKS of the frame layer: the bytes of a frame, with those of the reference. -/
import Derived.Test.YtjnjjnkanbnliaaDoorFraC
import Derived.Test.YtjnjjnkanbnliaaDoorRef4
import Derived.Test.YtjnjjnkanbnliaaDoorRegionB
namespace Go.Proofs.YtjnjjnkanbnliaaDoor
open Go.RowKit

def HeadRel (l : List UInt8) (w : World) (u3 u8 : Value) (wr : World) : Prop :=
  ∃ (j : Nat) (x : Option Addr) (c : Nat), j ≤ l.length ∧ u8 = .int .i64 (j : Int) ∧ u3 = .slice x (l.take j).length c ∧ OwnsB w.heap.size wr x c (l.take j) ∧ Below w.heap.size w wr
set_option maxHeartbeats 800000 in
theorem head_any (g c0 : Nat) (l : List UInt8) (w : World) (hc : ∀ i, i < l.length → w.cell? ⟨g, i, none⟩ = some (.int .i64 ((l.getD i 0).toNat : Int))) (hl : l.length ≤ 1000) :
    Calls Tryd.prog 38 #[.slice (some ⟨g, 0, none⟩) l.length c0] w (CloneOf l w) := by
  go_enter Tryd.func38, Tryd.ntmps38
  go_wp2_with fail
  go_loopw [3, 8] (fun u3 u8 wr => HeadRel l w u3 u8 wr) (fun _ u8 _ => l.length - (intOf u8).toNat)
  case atStart => exact ⟨0, none, 0, by omega, rfl, rfl, OwnsB.nil _ _, Below.refl _ _⟩
  case round =>
    obtain ⟨j, x, c, hj, rfl, rfl, ho, hB⟩ := hrel
    have HO := Lib.hid ho
    clear ho
    by_cases hlt : j < l.length
    · have hkb : decide ((j : Int) < (l.length : Int)) = true := by simp; omega
      have hcj := later_lt hB (World.block_lt_of_cell? _ _ (hc j hlt)) (hc j hlt)
      have hts := take_succ_getD l j hlt
      obtain ⟨v, hv⟩ : ∃ v, l.getD j 0 = v := ⟨_, rfl⟩
      obtain ⟨lj, hlj⟩ : ∃ m, l.take j = m := ⟨_, rfl⟩
      obtain ⟨lm, hlm⟩ : ∃ m, lj ++ [v] = m := ⟨_, rfl⟩
      have hll : lj.length ≤ 1000 := by rw [← hlj]; simp; omega
      have HLM : Hid (l.take (j + 1) = lm) := by show _ = _; rw [hts, hv, hlj, hlm]
      rw [hv] at hcj
      rw [hlj] at HO ⊢
      clear hlj hv hts hc
      go_wp2_with (at_builtin; refine wpList_app rfl _ _ rfl (B := w.heap.size) (l := lj) (y := some ⟨wr.heap.size, 0, none⟩) (m := [v]) (HO.out.turn ((Turns.refl (fun _ => False) wr).alloc _) (fun _ _ h => h)) rfl rfl (bts_one wr v _ _) (fun h => by cases h) (by simp; omega) hlm (by have := hB.size; simp; omega) ?_; intro x' cap' w3 h1 h2 _; refine Hid.out ?_)
      unfold Hid
      have HN := Lib.hid h1
      have hB4 := (al hB _).trans (h2.mono (Nat.le_refl _))
      clear h1 h2 HO hB hlm
      go_wp2_with fail
      exact ⟨⟨j + 1, x', cap', by omega, by go_num, by rw [HLM.out], by rw [HLM.out]; exact HN.out, hB4⟩, by simp [intOf]; omega⟩
    · obtain rfl : j = l.length := by omega
      rw [List.take_length] at HO ⊢
      go_wp2_with fail
      go_ret
      exact ⟨x, c, rfl, HO.out, hB⟩

/-- The body of a frame. -/
def bodyF (a b c : UInt8) (l : List UInt8) : List UInt8 := [a, b, c, UInt8.ofNat l.length] ++ l
def frV (v n s : Int) (x : Option Addr) (k c : Nat) : Value := .agg #[.int .i64 v, .int .i64 n, .int .i64 s, .slice x k c]
theorem vldF_iff (v n s : Int) (k : Nat) : vldF v n s k = true ↔ (0 ≤ v ∧ v ≤ 15) ∧ (0 ≤ n ∧ n ≤ 1) ∧ (0 ≤ s ∧ s ≤ 255) ∧ (1 ≤ k ∧ k ≤ 64) := by
  unfold vldF
  simp only [Bool.and_eq_true, decide_eq_true_eq]
  omega
def BytesNo (w : World) (e : Ending) (w' : World) : Prop := e = .returned (.tuple #[.slice none 0 0, .int .i64 2]) ∧ Below w.heap.size w w'
def BytesYes (m : List UInt8) (w : World) (e : Ending) (w' : World) : Prop := ∃ x cap, e = .returned (.tuple #[.slice x m.length cap, .int .i64 0]) ∧ OwnsB w.heap.size w' x cap m ∧ Below w.heap.size w w'
/-- The bytes of a frame. -/
def wholeF (a b c : UInt8) (l : List UInt8) : List UInt8 := bodyF a b c l ++ Crc.trailer (Crc.sum (bodyF a b c l))

set_option maxHeartbeats 800000 in
theorem bytes_no (v n s : Int) (x : Option Addr) (k c : Nat) (w : World) (hv : vldF v n s k = false) : Calls Tryd.prog 24 #[.agg #[.int .i64 v, .int .i64 n, .int .i64 s, .slice x k c]] w (BytesNo w) := by
  have HV := Lib.hid hv
  clear hv
  go_enter Tryd.func24, Tryd.ntmps24
  go_wp2_with fail
  refine (valid_any v n s x k c _).mono ?_
  rintro e w1 ⟨rfl, hb⟩
  rw [HV.out]
  go_wp2_with fail
  go_ret2
  exact ⟨rfl, thru (al (Below.refl _ w) _) hb⟩
set_option maxHeartbeats 800000 in
theorem refbytes_no (v n s : Int) (x : Option Addr) (k c : Nat) (w : World) (hv : vldF v n s k = false) : Calls Tryd.prog 29 #[.agg #[.int .i64 v, .int .i64 n, .int .i64 s, .slice x k c]] w (BytesNo w) := by
  have HV := Lib.hid hv
  clear hv
  go_enter Tryd.func29, Tryd.ntmps29
  go_wp2_with fail
  refine (refvalid_any v n s x k c _).mono ?_
  rintro e w1 ⟨rfl, hb⟩
  rw [HV.out]
  go_wp2_with fail
  go_ret2
  exact ⟨rfl, thru (al (Below.refl _ w) _) hb⟩

set_option maxHeartbeats 800000 in
theorem body_any (a b c : UInt8) (x : Option Addr) (l : List UInt8) (cx : Nat) (w : World) (hx : Bts w x l) (hn : x = none → cx = 0) (hl : l.length ≤ 64) :
    Calls Tryd.prog 43 #[.agg #[.int .i64 (a.toNat : Int), .int .i64 (b.toNat : Int), .int .i64 (c.toNat : Int), .slice x l.length cx]] w (CloneOf (bodyF a b c l) w) := by
  have hk : (l.length : Int) = ((UInt8.ofNat l.length).toNat : Int) := by rw [UInt8.toNat_ofNat']; omega
  have e8 : IntKind.u8.wrap (l.length : Int) = ((UInt8.ofNat l.length).toNat : Int) := by rw [wrap8u]; omega
  obtain ⟨d, hd⟩ : ∃ d, UInt8.ofNat l.length = d := ⟨_, rfl⟩
  obtain ⟨lm, hlm⟩ : ∃ m, [a, b, c, d] ++ l = m := ⟨_, rfl⟩
  have HM : Hid (bodyF a b c l = lm) := by show _ = _; unfold bodyF; rw [hd, hlm]
  rw [hd] at e8
  clear hk hd
  have hB := Below.refl w.heap.size w
  go_enter Tryd.func43, Tryd.ntmps43
  go_wp2_with (at_builtin; (refine wpList_app rfl _ _ rfl (l := [a, b, c, d]) (B := w.heap.size) (OwnsB.whole _ (w.heap.size + 1) _ [a, b, c, d] _ rfl (by simp) (by simp) (by simp)) rfl (m := l) rfl (hx.later (al (al hB _) _)) hn (by simp; omega) hlm (by simp; omega) ?_); intro x1 c1 w1 ho hb _; refine Hid.out ?_)
  unfold Hid
  replace hB := (al (al hB _) _).trans (hb.mono (by have := hB.size; first | omega | (simp <;> omega)))
  have O1 := Lib.hid ho
  clear ho hb hx e8
  go_wp2_with fail
  go_ret
  rw [HM.out]
  exact ⟨x1, c1, rfl, O1.out, hB⟩

set_option maxHeartbeats 800000 in
theorem refbytes_yes (a b c : UInt8) (x : Option Addr) (l : List UInt8) (cx : Nat) (w : World) (hx : Bts w x l) (hn : x = none → cx = 0) (hv : vldF (a.toNat : Int) (b.toNat : Int) (c.toNat : Int) l.length = true) :
    Calls Tryd.prog 29 #[.agg #[.int .i64 (a.toNat : Int), .int .i64 (b.toNat : Int), .int .i64 (c.toNat : Int), .slice x l.length cx]] w (BytesYes (wholeF a b c l) w) := by
  have hl : l.length ≤ 64 := ((vldF_iff _ _ _ _).1 hv).2.2.2.2
  obtain ⟨lm, hlm⟩ : ∃ m, bodyF a b c l = m := ⟨_, rfl⟩
  have hbl : lm.length ≤ 100 := by rw [← hlm]; unfold bodyF; simp; omega
  obtain ⟨wl, hwl⟩ : ∃ m, lm ++ Crc.trailer (Crc.sum lm) = m := ⟨_, rfl⟩
  have HW : Hid (wholeF a b c l = wl) := by show _ = _; unfold wholeF; rw [hlm, hwl]
  have HLM := Lib.hid hlm
  have HWL := Lib.hid hwl
  clear hlm hwl
  have HV := Lib.hid hv
  have hB := Below.refl w.heap.size w
  clear hv
  go_enter Tryd.func29, Tryd.ntmps29
  go_wp2_with fail
  have g0 := cell_new w #[.int .i64 (a.toNat : Int), .int .i64 (b.toNat : Int), .int .i64 (c.toNat : Int), .slice x l.length cx] 24 (0, 0) 0
  refine (refvalid_any _ _ _ x l.length cx _).mono ?_
  rintro e w1 ⟨rfl, hb⟩
  rw [HV.out]
  have f0 := later (a := ⟨w.heap.size, 0, none⟩) (v := .int .i64 (a.toNat : Int)) hb (by go_simp)
  have f1 := later (a := ⟨w.heap.size, 1, none⟩) (v := .int .i64 (b.toNat : Int)) hb (by go_simp)
  have f2 := later (a := ⟨w.heap.size, 2, none⟩) (v := .int .i64 (c.toNat : Int)) hb (by go_simp)
  have f3 := later (a := ⟨w.heap.size, 3, none⟩) (v := .slice x l.length cx) hb (by go_simp)
  replace hB := thru (al hB _) hb
  clear hb g0
  replace hx := hx.later hB
  go_wp2_with fail
  refine (body_any a b c x l cx _ hx hn hl).mono ?_
  rw [HLM.out]
  rintro e w2 ⟨x2, c2, rfl, ho, hb⟩
  replace hB := thru hB hb
  have y2 := ho.bts
  have n2 := ho.none_cap
  clear hb ho f0 f1 f2 f3
  go_wp2_with fail
  refine (refapp_any x2 lm c2 _ y2 n2 (by omega)).mono ?_
  rintro e w3 ⟨x3, c3, rfl, ho, hb⟩
  rw [HWL.out] at ho ⊢
  have HO := Lib.hid (OwnsB.weaken ho hB.size)
  replace hB := thru hB hb
  clear hb ho
  go_wp2_with fail
  go_ret2
  rw [HW.out]
  exact ⟨x3, c3, rfl, HO.out, hB⟩

set_option maxHeartbeats 1000000 in
theorem bytes_yes (a b c : UInt8) (x : Option Addr) (l : List UInt8) (cx : Nat) (w : World) (hx : Bts w x l) (hn : x = none → cx = 0) (hv : vldF (a.toNat : Int) (b.toNat : Int) (c.toNat : Int) l.length = true) :
    Calls Tryd.prog 24 #[.agg #[.int .i64 (a.toNat : Int), .int .i64 (b.toNat : Int), .int .i64 (c.toNat : Int), .slice x l.length cx]] w (BytesYes (wholeF a b c l) w) := by
  have hl : l.length ≤ 64 := ((vldF_iff _ _ _ _).1 hv).2.2.2.2
  have e8 : (l.length : Int) = ((UInt8.ofNat l.length).toNat : Int) := by rw [UInt8.toNat_ofNat']; omega
  obtain ⟨d, hd⟩ : ∃ d, UInt8.ofNat l.length = d := ⟨_, rfl⟩
  obtain ⟨lm, hlm⟩ : ∃ m, [a, b, c, d] ++ l = m := ⟨_, rfl⟩
  have HM : Hid (bodyF a b c l = lm) := by show _ = _; unfold bodyF; rw [hd, hlm]
  have hll : lm.length ≤ 100 := by rw [← hlm]; simp; omega
  obtain ⟨wl, hwl⟩ : ∃ m, lm ++ Crc.trailer (Crc.sum lm) = m := ⟨_, rfl⟩
  have HW : Hid (wholeF a b c l = wl) := by show _ = _; unfold wholeF; rw [HM.out, hwl]
  have HWL := Lib.hid hwl
  clear hwl
  rw [hd] at e8
  have HV := Lib.hid hv
  have E8 := Lib.hid e8
  have HLM := Lib.hid hlm
  have hB := Below.refl w.heap.size w
  clear hv hd e8 hlm
  go_enter Tryd.func24, Tryd.ntmps24
  go_wp2_with fail
  refine (valid_any _ _ _ x l.length cx _).mono ?_
  rintro e w1 ⟨rfl, hb⟩
  rw [HV.out]
  have f0 := later (a := ⟨w.heap.size, 0, none⟩) (v := .int .i64 (a.toNat : Int)) hb (by go_simp)
  have f1 := later (a := ⟨w.heap.size, 1, none⟩) (v := .int .i64 (b.toNat : Int)) hb (by go_simp)
  have f2 := later (a := ⟨w.heap.size, 2, none⟩) (v := .int .i64 (c.toNat : Int)) hb (by go_simp)
  have f3 := later (a := ⟨w.heap.size, 3, none⟩) (v := .slice x l.length cx) hb (by go_simp)
  replace hB := thru (al hB _) hb
  have hz1 : w.heap.size < w1.heap.size := World.block_lt_of_cell? _ _ f0
  clear hb
  replace hx := hx.later hB
  go_wp2_with fail
  refine wp_region_schedB (B := w1.heap.size) (fun W => W.cell? ⟨w.heap.size, 0, none⟩ = some (.int .i64 (a.toNat : Int)) ∧ W.cell? ⟨w.heap.size, 1, none⟩ = some (.int .i64 (b.toNat : Int)) ∧ W.cell? ⟨w.heap.size, 2, none⟩ = some (.int .i64 (c.toNat : Int)) ∧ W.cell? ⟨w.heap.size, 3, none⟩ = some (.slice x l.length cx) ∧ Bts W x l ∧ w1.heap.size ≤ W.heap.size ∧ Below w.heap.size w W) (.one [0, 1, 2, 3, 4, 5, 6, 7, 8, 11, 12] 9 (.one [] 10 (.one [] 13 (.one [] 14 (.done [15, 16]))))) (by kernel_rfl) (by kernel_rfl) (fun _ _ _ _ _ h => h) ⟨f0, f1, f2, f3, hx, Nat.le_refl _, hB.drew⟩ ?_
  clear f0 f1 f2 f3 hB hx
  rintro W ⟨f0, f1, f2, f3, hx, hzW, hB⟩
  rw [wpSchedB]
  simp only [pick, List.map_cons, List.map_nil, Array.getD_eq_getD_getElem?, List.getElem?_toArray, List.getElem?_cons_succ, List.getElem?_cons_zero, Option.getD_some]
  have k0 := plusB_cell f0 hz1
  have k1 := plusB_cell f1 hz1
  have k2 := plusB_cell f2 hz1
  have k3 := plusB_cell f3 hz1
  repeat (first | go_big_quiet_step (fail) | quiet_step (fail))
  refine wpQuiet_nil ?_
  clear k0 k1 k2 k3 f0 f1 f2 f3
  rw [E8.out]
  refine heavyB_want (by rfl) (fun K' hK' => ?_)
  go_simp
  refine hK' _ _ (((Below.refl _ _).alloc hzW _)) ?_
  clear hK' K'
  try simp only [Act.put, List.setIfInBounds_toArray, List.set_cons_zero, List.set_cons_succ]
  rw [wpSchedB]
  simp only [pick, List.map_nil, Array.getD_eq_getD_getElem?, List.getElem?_toArray, List.getElem?_cons_succ, List.getElem?_cons_zero, Option.getD_some]
  refine wpQuiet_nil ?_
  refine heavyB_want (by rfl) (fun K' hK' => ?_)
  go_simp
  refine (head_any W.heap.size 4 [a, b, c, d] _ (fun i hi => by rw [cell_new]; rcases (by simpa using hi : i < 4) with h; match i, h with | 0, _ => rfl | 1, _ => rfl | 2, _ => rfl | 3, _ => rfl) (by simp)).mono ?_
  rintro e w2 ⟨x2, c2, rfl, ho, hb⟩
  refine hK' _ _ (hb.mono (show w1.heap.size ≤ (W.alloc _).heap.size from Nat.le_trans hzW (by simp))) ?_
  clear hK' K'
  have hB2 := thru (al hB _) hb
  have hW2 := thru (al (Below.refl _ W) _) hb
  have hx2 := hx.later hW2
  have ho2 := OwnsB.weaken ho (show W.heap.size ≤ _ by simp)
  have HO := Lib.hid ho2
  have hz2 : w1.heap.size ≤ w2.heap.size := Nat.le_trans hzW hW2.size
  clear ho hb ho2
  try simp only [Act.put, List.setIfInBounds_toArray, List.set_cons_zero, List.set_cons_succ]
  rw [wpSchedB]
  simp only [pick, List.map_nil, Array.getD_eq_getD_getElem?, List.getElem?_toArray, List.getElem?_cons_succ, List.getElem?_cons_zero, Option.getD_some]
  refine wpQuiet_nil ?_
  refine heavyB_want (by rfl) (fun K' hK' => ?_)
  refine wp_app _ _ rfl (l := [a, b, c, d]) (B := W.heap.size) HO.out rfl (m := l) rfl hx2 hn (by simp; omega) HLM.out hW2.size ?_
  intro x3 c3 w3 ho hb _
  refine hK' _ _ (hb.mono hzW) ?_
  clear hK' K'
  have y3 := ho.bts
  have hB3 := hB2.trans (hb.mono hB.size)
  have hz3 : w1.heap.size ≤ w3.heap.size := Nat.le_trans hz2 hb.size
  clear ho hb
  try simp only [Act.put, List.setIfInBounds_toArray, List.set_cons_zero, List.set_cons_succ]
  rw [wpSchedB]
  simp only [pick, List.map_nil, Array.getD_eq_getD_getElem?, List.getElem?_toArray, List.getElem?_cons_succ, List.getElem?_cons_zero, Option.getD_some]
  refine wpQuiet_nil ?_
  refine heavyB_want (by rfl) (fun K' hK' => ?_)
  go_simp
  refine (append_any x3 lm c3 _ y3 (by omega)).mono ?_
  rintro e w4 ⟨x4, c4, rfl, ho, hb⟩
  refine hK' _ _ (hb.mono hz3) ?_
  rw [HWL.out] at ho ⊢
  clear hK' K'
  have HO4 := Lib.hid (OwnsB.weaken ho hB3.size)
  have hB4 := thru hB3 hb
  clear ho hb
  try simp only [Act.put, List.setIfInBounds_toArray, List.set_cons_zero, List.set_cons_succ]
  rw [wpSchedB]
  simp only [pick, List.map_cons, List.map_nil, Array.getD_eq_getD_getElem?, List.getElem?_toArray, List.getElem?_cons_succ, List.getElem?_cons_zero, Option.getD_some]
  repeat (first | go_big_quiet_step (fail) | quiet_step (fail))
  refine wpQuiet_nil ?_
  go_wp2_with fail
  go_ret2
  rw [HW.out]
  exact ⟨x4, c4, rfl, HO4.out, hB4⟩

end Go.Proofs.YtjnjjnkanbnliaaDoor
