/- WALKS of the block layer: Encode. -/
import Derived.Test.YtgibfagnfhgelaaBlkA
import Derived.Laws.CopyOwn
namespace Go.Proofs.Ytgibfagnfhgelaa
open Go.RowKit

theorem a49_zero : (Try.prog.info? 63).map (·.zero) = some (some (aggN 49 fun _ => .int .u8 0)) := by kernel_rfl
/-- The first 49 bytes of a block. -/
def base49 (d : List UInt8) : List UInt8 := UInt8.ofNat d.length :: (d ++ List.replicate (48 - d.length) 0)
/-- The block of some data. -/
def encL (d : List UInt8) : List UInt8 := base49 d ++ Crc.trailer (Crc.sum (base49 d)) ++ [0]
theorem base49_len (d : List UInt8) (h : d.length ≤ 48) : (base49 d).length = 49 := by simp [base49]; omega
theorem encL_len (d : List UInt8) (h : d.length ≤ 48) : (encL d).length = 54 := by
  unfold encL
  rw [List.length_append, List.length_append, base49_len d h, Crc.trailer_length]; rfl
theorem erasedL_len : erasedL.length = 54 := by decide
theorem bts_obj {w : World} {g : Nat} {l : List UInt8} {C : List Value} {t : TypeId} {p : Nat × Nat} (h : w.heap[g]? = some (.cells C.toArray t p)) (hC : C = l.map encB) : Bts w (some ⟨g, 0, none⟩) l := by
  subst hC
  refine .inr ⟨g, 0, rfl, fun i hi => ?_⟩
  unfold World.cell?
  simp only [h]
  simp [List.getElem?_eq_getElem hi]
theorem setCell_obj (w : World) (g i : Nat) (C : List Value) (t : TypeId) (p : Nat × Nat) (v : Value) (h : w.heap[g]? = some (.cells C.toArray t p)) : (w.setCell ⟨g, i, none⟩ v).heap[g]? = some (.cells (C.set i v).toArray t p) := by
  unfold World.setCell
  simp [Array.getElem?_modify, h]
def EncOf (d : List UInt8) (w : World) (e : Ending) (w' : World) : Prop := ∃ x cap, e = .returned (.tuple #[.slice x 54 cap, .int .i64 0]) ∧ OwnsB w.heap.size w' x cap (encL d) ∧ Below w.heap.size w w'

set_option maxHeartbeats 400000 in
theorem encode_no (x : Option Addr) (n c : Nat) (w : World) (hn : 48 < n) : Calls Try.prog 12 #[.slice x n c] w fun e w' => e = .returned (.tuple #[.slice none 0 0, .int .i64 3]) ∧ w' = w := by
  have d1 : decide (48 < n) = true := decide_eq_true hn
  have d2 : decide (48 < (n : Int)) = true := decide_eq_true (by omega)
  go_enter Try.func12, Try.ntmps12
  go_wp2_with fail
  go_ret2
  exact ⟨rfl, rfl⟩

set_option maxHeartbeats 1000000 in
theorem encode_yes (x : Option Addr) (d : List UInt8) (c : Nat) (w : World) (hx : Bts w x d) (hn : x = none → c = 0) (hd : d.length ≤ 48) : Calls Try.prog 12 #[.slice x d.length c] w (EncOf d w) := by
  have hB := Below.refl w.heap.size w
  have d1 : decide (48 < d.length) = false := decide_eq_false (by omega)
  have d2 : decide (48 < (d.length : Int)) = false := decide_eq_false (by omega)
  obtain ⟨nb, hnb⟩ : ∃ b, UInt8.ofNat d.length = b := ⟨_, rfl⟩
  have w8 : IntKind.u8.wrap (d.length : Int) = (nb.toNat : Int) := by rw [wrap8u, ← hnb, UInt8.toNat_ofNat']; omega
  have HNB := Lib.hid hnb
  clear hnb
  go_enter Try.func12, Try.ntmps12
  go_wp2_with (refine wpList_allocEq 4 rfl rfl _ rfl a49_zero ?_; intro X hX a1 hb hz; refine Hid.out ?_)
  unfold Hid
  try simp only [Act.put, List.setIfInBounds_toArray, List.set_cons_zero, List.set_cons_succ]
  replace hB := thru hB hb
  have hg : X.heap[w.heap.size]? = some (.cells (List.replicate 49 (Value.int .u8 0)).toArray 63 (0, 0)) := by rw [hX, heap_alloc_new]; rfl
  have hv0 := (a1.at 0 (by omega)).1
  have hf0 := (a1.at 0 (by omega)).2
  clear hX hb a1
  have HG := Lib.hid (setCell_obj X w.heap.size 0 _ _ _ (.int .u8 (nb.toNat : Int)) hg)
  have hB1 := hB.setCell (p := ⟨w.heap.size, 0, none⟩) (Nat.le_refl _) (.int .u8 (nb.toNat : Int))
  have hx1 : Bts (X.setCell ⟨w.heap.size, 0, none⟩ (.int .u8 (nb.toNat : Int))) x d := hx.later hB1
  clear hg
  have hmin : (d.map encB).length = Nat.min d.length 48 := by rw [List.length_map]; exact (Nat.min_eq_left hd).symm
  have hpos : 0 < (d.map encB).length → (some (⟨w.heap.size, 1, none⟩ : Addr)) = some ⟨w.heap.size, 1, none⟩ ∧ ∃ ad, x = some ad ∧ ∀ j v, (d.map encB)[j]? = some v → (X.setCell ⟨w.heap.size, 0, none⟩ (.int .u8 (nb.toNat : Int))).cell? (ad.add j) = some v := fun hp => by
    cases x with
    | none => exact absurd (hx1.resolve_left (fun h => by subst h; simp at hp)) (by rintro ⟨_, _, h, _⟩; cases h)
    | some ad => exact ⟨rfl, ad, rfl, news_of_bts hx1⟩
  have hfit : 1 + (d.map encB).length ≤ ((List.replicate 49 (Value.int .u8 0)).set 0 (.int .u8 (nb.toNat : Int))).length := by simp; omega
  go_wp2_with (refine wpList_copy_splice rfl (.tmp 12) (.tmp 13) _ _ rfl 5 Try.underlying25 (by kernel_rfl) _ _ _ _ _ _ rfl rfl w.heap.size 1 _ _ HG.out (d.map encB) hmin hpos hfit (oneEnc d) w.heap.size w hB1 (Nat.le_refl _) ?_; intro w2 hg2 hB2; refine Hid.out ?_)
  unfold Hid
  have hbt : Bts w2 (some ⟨w.heap.size, 0, none⟩) (base49 d) := by
    refine bts_obj hg2.out ?_
    unfold splice base49
    rw [List.length_map, HNB.out]
    simp only [List.map_cons, List.map_append, List.map_replicate]
    rw [show (List.replicate 49 (Value.int .u8 0)).set 0 (.int .u8 (nb.toNat : Int)) = .int .u8 (nb.toNat : Int) :: List.replicate 48 (.int .u8 0) from rfl]
    rw [show 1 + d.length = d.length + 1 by omega, List.take_succ_cons, List.take_zero, List.drop_succ_cons, List.drop_replicate]
    rfl
  have hml := base49_len d hd
  have HE : Hid (encL d = base49 d ++ Crc.trailer (Crc.sum (base49 d)) ++ [0]) := rfl
  obtain ⟨m, hm⟩ : ∃ m, base49 d = m := ⟨_, rfl⟩
  rw [hm] at hbt hml HE
  have hA := append_any (some ⟨w.heap.size, 0, none⟩) m 49 w2 hbt (by omega)
  rw [hml] at hA
  have HA := Lib.hid hA
  obtain ⟨m1, hm1⟩ : ∃ k, m ++ Crc.trailer (Crc.sum m) = k := ⟨_, rfl⟩
  have hl1 : m1.length ≤ 1000 := by rw [← hm1, List.length_append, Crc.trailer_length]; omega
  obtain ⟨m2, hm2⟩ : ∃ k, m1 ++ [0] = k := ⟨_, rfl⟩
  have HE2 : Hid (encL d = m2) := by show _ = _; rw [HE.out, hm1, hm2]
  have HM1 := Lib.hid hm1
  have HM2 := Lib.hid hm2
  have HL : Hid (m2.length = 54) := by show _ = _; rw [← HE2.out]; exact encL_len d hd
  clear hA hm hml hm1 hm2 hg2 hmin hpos hfit hx1 hx hbt HE HG hv0 hf0 hz hB hB1
  go_wp2_with fail
  refine HA.out.mono ?_
  rintro e w3 ⟨x3, c3, rfl, ho, hb⟩
  rw [HM1.out] at ho ⊢
  have hB3 := thru hB2 hb
  have hs3 : w2.heap.size ≤ w3.heap.size := hb.size
  have HO := Lib.hid ho
  have hs2 := hB2.size
  clear ho hb hB2
  go_wp2_with (at_builtin; refine wpList_app rfl _ _ rfl (B := w2.heap.size) (l := m1) (y := some ⟨w3.heap.size, 0, none⟩) (m := [0]) (HO.out.turn ((Turns.refl (fun _ => False) w3).alloc _) (fun _ _ h => h)) rfl rfl (bts_one w3 0 _ _) (fun h => by cases h) (by simp; omega) HM2.out (by simp; omega) ?_; intro x' cap' w4 h1 h2 _; refine Hid.out ?_)
  unfold Hid
  have HN := Lib.hid h1
  have hB4 := (al hB3 _).trans (h2.mono (by omega))
  clear h1 h2 HO hB3
  go_wp2_with fail
  refine bodyPost_ret (v := .tuple #[.slice x' m2.length cap', .int .i64 0]) (by simp [results, Try.results12, go_sem]) rfl ⟨x', cap', by rw [HL.out], ?_, hB4⟩
  rw [HE2.out]
  exact HN.out.weaken hs2

end Go.Proofs.Ytgibfagnfhgelaa
