/- WALKS of the reference of the sign layer: Decode, where it answers. -/
import Derived.Test.YtjpicnfkmfjnoaaSgnRa
namespace Go.Proofs.Ytjpicnfkmfjnoaa
open Go.RowKit

set_option maxRecDepth 20000 in
set_option maxHeartbeats 4000000 in
theorem refDecode_ok (x : Option Addr) (l : List UInt8) (c : Nat) (w : World) (hx : Bts w x l) (hv : vldS ((l.getD 1 0).toNat : Int) ((l.getD 0 0).toNat : Int) = true) (hl : l.length = 146 + 8 * (l.getD 1 0).toNat) :
    Calls Try.prog 31 #[.slice x l.length c] w fun e w' => ∃ y cy, e = .returned (.tuple #[aggN 20 (sigV ((l.getD 0 0).toNat : Int) (fun i => Sgn.wd l (2 + 8 * i) 8) y (l.getD 1 0).toNat cy), .int .i64 0]) ∧ OwnsW w.heap.size w' y cy (Sgn.wds l (l.getD 1 0).toNat) ∧ Below w.heap.size w w' := by
  have h2 : ¬ l.length < 146 := by omega
  have hd2 : decide (l.length < 146) = false := decide_eq_false h2
  have hv2 := refValid_any ((l.getD 1 0).toNat : Int) ((l.getD 0 0).toNat : Int)
  rw [hv] at hv2
  have h6 : (l.getD 1 0).toNat ≤ 6 := by
    unfold vldS at hv
    have := of_decide_eq_true hv
    omega
  obtain ⟨l0, e0⟩ : ∃ b, l.getD 0 0 = b := ⟨_, rfl⟩
  obtain ⟨l1, e1⟩ : ∃ b, l.getD 1 0 = b := ⟨_, rfl⟩
  rw [e0] at hv2 ⊢
  rw [e1] at hv2 hl h6 ⊢
  have HE0 := Lib.hid e0
  have HE1 := Lib.hid e1
  have hl0 : l0.toNat < 256 := l0.toNat_lt
  obtain ⟨m, hm⟩ : ∃ m, l1.toNat = m := ⟨_, rfl⟩
  have HM := Lib.hid hm
  rw [hm] at hl h6 hv2 ⊢
  have HLEN := Lib.hid hl
  obtain ⟨F, hF⟩ : ∃ F, (fun i => Sgn.wd l (2 + 8 * i) 8) = F := ⟨_, rfl⟩
  rw [hF]
  have HF := Lib.hid hF
  clear hv hm e0 e1 hl hF
  go_enter Try.func31, Try.ntmps31
  go_wp2_with (refine wpList_allocTo 2 rfl rfl _ rfl sig_zero ?_; intro X a_b hb0 hz0; refine Hid.out ?_)
  unfold Hid
  try simp only [Act.put, List.setIfInBounds_toArray, List.set_cons_zero, List.set_cons_succ]
  obtain ⟨a, ea⟩ : ∃ a, w.heap.size = a := ⟨_, rfl⟩
  have s_a : w.heap.size ≤ a := by omega
  have hB := hb0
  have hx1 : Bts X x l := hx.later hb0
  rw [ea] at a_b hz0 ⊢
  clear hb0 ea hx
  obtain ⟨g, o, rfl, hc⟩ := hx1.at (by omega)
  have k0 := hc 0 (by omega)
  have k1 := hc 1 (by omega)
  rw [Nat.add_zero, HE0.out] at k0
  rw [HE1.out, HM.out] at k1
  have hxg : ∀ y, (some ⟨g, o, none⟩ : Option Addr) = some y → y.block < X.heap.size := fun y hy => by cases hy; exact World.block_lt_of_cell? _ _ k0
  obtain ⟨n, hnn⟩ : ∃ n, l.length = n := ⟨_, rfl⟩
  have HNN := Lib.hid hnn
  rw [hnn] at h2 hd2 ⊢
  have hl : n = 146 + 8 * m := by rw [← hnn]; exact HLEN.out
  have hd : decide ((n : Int) < 146) = false := by simp; omega
  have hnI : ((n : Int) != 146 + 8 * (m : Int)) = false := by
    rw [bne_eq_false_iff_eq]
    omega
  have HV := hv2
  have HY := Lib.hid hx1
  have HXG := Lib.hid hxg
  have HLN0 := Lib.hid hl
  clear hv2 hc hx1 hnn hxg hl
  go_wp2_with fail
  refine wp_region_sched (fun W => True ∧ W.cell? ⟨g, o, none⟩ = some (.int .u8 (l0.toNat : Int)) ∧ W.cell? ⟨g, o + 1, none⟩ = some (.int .u8 (m : Int)) ∧ Below X.heap.size X W) (.one [0, 1, 2, 3, 4, 5, 6, 7, 8, 9, 10, 11] 12 (.done [13, 14, 15, 16, 17, 18, 19, 20, 21, 22, 23, 24, 25])) (by kernel_rfl) (by kernel_rfl) (fun _ _ _ _ _ h => h) ⟨trivial, (by go_simp), (by go_simp), (Below.refl _ X).drew⟩ ?_
  clear k0 k1
  rintro V ⟨-, k0, k1, hXW⟩
  rw [wpSched]
  simp only [pick, List.map_cons, List.map_nil, Array.getD_eq_getD_getElem?, List.getElem?_toArray, List.getElem?_cons_succ, List.getElem?_cons_zero, Option.getD_some]
  have kk0 := plusW_cell k0
  have kk1 := plusW_cell k1
  repeat (first | go_big_quiet_step (fail) | quiet_step (fail))
  refine wpQuiet_nil ?_
  refine heavy_want (by rfl) (fun K' hK' => ?_)
  go_simp
  refine (HV _).mono ?_
  rintro e V1 ⟨rfl, hw⟩
  obtain rfl : V = V1 := hw.symm
  refine hK' _ _ (Below.refl _ _) ?_
  clear hK' K' HV hw
  try simp only [Act.put, List.setIfInBounds_toArray, List.set_cons_zero, List.set_cons_succ]
  rw [wpSched]
  simp only [pick, List.map_cons, List.map_nil, Array.getD_eq_getD_getElem?, List.getElem?_toArray, List.getElem?_cons_succ, List.getElem?_cons_zero, Option.getD_some]
  repeat (first | go_big_quiet_step (fail) | quiet_step (fail))
  refine wpQuiet_nil ?_
  clear kk0 kk1
  replace hB := thru hB hXW
  replace a_b := a_b.later hXW
  have yV := HY.out.later hXW
  have hXV : X.heap.size ≤ V.heap.size := hXW.size
  have hgV : g < V.heap.size := Nat.lt_of_lt_of_le (HXG.out _ rfl) hXV
  have haV : a < V.heap.size := by omega
  clear hXW HY HXG hz0 hXV hd hd2
  go_wp2_with (refine wpList_allocTo 4 rfl rfl _ rfl sig_zero ?_; intro X4 a4 hb hz4; refine Hid.out ?_)
  unfold Hid
  try simp only [Act.put, List.setIfInBounds_toArray, List.set_cons_zero, List.set_cons_succ]
  obtain ⟨b4, hb4⟩ : ∃ a, V.heap.size = a := ⟨_, rfl⟩
  have HB4 := Lib.hid hb4
  rw [hb4] at a4 hz4 hgV haV ⊢
  clear hb4
  go_wp2_with (refine wpList_storeB rfl rfl _ (.tmp 4) _ rfl (b := b4) (q := 0) rfl (n := 20) (v := sig0 (l0.toNat : Int)) rfl a4 (fun j _ => sig_one _ _ _ _ _ j) sig_size ?_; intro Y4 t1; refine Hid.out ?_)
  unfold Hid
  replace hb := t1.below V.heap.size V (by have := HB4.out; omega) hb
  have g4 : Blk Y4 b4 0 20 (sigV (l0.toNat : Int) (fun _ => 0#64) none 0 0) := t1.blk
  clear t1 a4 hz4
  replace hB := thru hB hb
  replace a_b := a_b.later hb
  have yY := yV.later hb
  have kY := later hb k1
  have hz4 : b4 < Y4.heap.size := World.block_lt_of_cell? _ _ (g4.at 0 (by omega)).1
  clear hb k0 k1 yV
  obtain ⟨Z0, hZ0⟩ : ∃ Z, Y4 = Z := ⟨_, rfl⟩
  rw [hZ0] at g4 hB a_b yY kY hz4 ⊢
  clear hZ0
  go_wp2_with fail
  go_loopw [5] (fun u5 wr => ∃ i : Nat, i ≤ 18 ∧ u5 = .int .i64 (i : Int) ∧ Below b4 Z0 wr ∧ Blk wr b4 0 20 (sigV (l0.toNat : Int) (fun k => if k < i then F k else 0#64) none 0 0) ∧ b4 < wr.heap.size) (fun u5 _ => 18 - (intOf u5).toNat)
  case atStart => exact ⟨0, by omega, rfl, Below.refl _ _, g4.congr (fun j hj => by simp), hz4⟩
  case round =>
    clear g4
    obtain ⟨i, hi, rfl, hBZ, gB, hzr⟩ := hrel
    have yW : Bts wr (some ⟨g, o, none⟩) l := yY.low hBZ (fun y hy => by cases hy; exact hgV)
    by_cases hlt : i < 18
    · have hki : decide ((i : Int) < 18) = true := by simp; omega
      obtain ⟨s, hs⟩ : ∃ s, 8 * i = s := ⟨_, rfl⟩
      have h8i : 8 * (i : Int) = (s : Int) := by omega
      obtain ⟨t, ht⟩ : ∃ t, 2 + s = t := ⟨_, rfl⟩
      have h2s : 2 + (s : Int) = (t : Int) := by omega
      have HT8 := Lib.hid (show t + 8 ≤ l.length ∧ t ≤ 250 by rw [HLEN.out]; omega)
      have hfi : Sgn.wd l t 8 = F i := by rw [← HF.out, ← ht, ← hs]
      have hcon := fun W (hy : Bts W (some ⟨g, o, none⟩) l) => refword_any t l (some ⟨g, o, none⟩) c W hy HT8.out
      rw [hfi, HNN.out] at hcon
      obtain ⟨v, hv⟩ : ∃ v, F i = v := ⟨_, rfl⟩
      have HVF := Lib.hid hv
      rw [hv] at hcon
      have hs200 : s ≤ 200 := by omega
      clear hs ht hfi hv kY
      go_wp2_with fail
      refine (hcon _ yW).mono ?_
      rintro e W2 ⟨rfl, hb⟩
      have gB2 := gB.later hb
      have cj : W2.cell? ⟨b4, 1 + i, none⟩ = some (.int .u64 (num (if i < i then F i else 0#64))) := (gB2.chain i hlt).1
      have fj := (gB2.chain i hlt).2
      have hBZ2 : Below b4 Z0 W2 := hBZ.trans (hb.mono (by omega))
      have hzr2 : b4 < W2.heap.size := Nat.lt_of_lt_of_le hzr hb.size
      clear gB hBZ hb hzr hcon yW
      go_wp2_with fail
      exact ⟨⟨i + 1, by omega, by go_num, hBZ2.setCell (p := ⟨b4, 1 + i, none⟩) (Nat.le_refl _) _, (sig_set gB2 i hlt v).congr (fun j hj => by
        unfold sigV
        by_cases h0 : j = 0
        · rw [if_pos h0, if_pos h0]
        · rw [if_neg h0, if_neg h0]
          by_cases h19 : j < 19
          · rw [if_pos h19, if_pos h19]
            dsimp only
            by_cases hji : j - 1 = i
            · rw [if_pos hji, if_pos (by omega), hji, HVF.out]
            · rw [if_neg hji]
              by_cases hl : j - 1 < i
              · rw [if_pos hl, if_pos (by omega)]
              · rw [if_neg hl, if_neg (by omega)]
          · rw [if_neg h19, if_neg h19]), by simp <;> omega⟩, by simp [intOf]; omega⟩
    · obtain rfl : i = 18 := by omega
      rw [show ((18 : Nat) : Int) = 18 from rfl]
      have gB1 : Blk wr b4 0 20 (sigV (l0.toNat : Int) F none 0 0) := gB.congr (fun j hj => by
        unfold sigV
        by_cases h0 : j = 0
        · rw [if_pos h0, if_pos h0]
        · rw [if_neg h0, if_neg h0]
          by_cases h19 : j < 19
          · rw [if_pos h19, if_pos h19]
            dsimp only
            rw [if_pos (by omega)]
          · rw [if_neg h19, if_neg h19])
      have a1 := a_b.low hBZ haV
      have hBw : Below w.heap.size w wr := hB.trans (hBZ.mono (by omega))
      have kW := (hBZ.cell (p := ⟨g, o + 1, none⟩) (show g < b4 from hgV)).trans kY
      obtain ⟨Z, hZ⟩ : ∃ Z, wr = Z := ⟨_, rfl⟩
      rw [hZ] at gB1 hzr a1 hBw yW kW ⊢
      clear gB hBZ hZ a_b yY kY hB
      go_wp2_with fail
      go_loopw [6] (fun u6 wr => DeRel (l0.toNat : Int) F l m b4 Z u6 wr) (fun u6 _ => m - (intOf u6).toNat)
      case atStart => exact ⟨0, none, 0, by omega, rfl, OwnsW.nil _ _, gB1, Below.refl _ _, hzr⟩
      case round =>
        clear gB1
        obtain ⟨j, xj, cj, hj, rfl, ho, gB, hBZ, hzw⟩ := hrel
        have hjl := Sgn.wds_length l j
        have kX := (hBZ.cell (p := ⟨g, o + 1, none⟩) (show g < b4 from hgV)).trans kW
        by_cases hlt : j < m
        · have hjm : decide (j < m) = true := decide_eq_true hlt
          have hLK := Sgn.wds_succ l j
          have hLN := Sgn.wds_length l (j + 1)
          obtain ⟨s, hs⟩ : ∃ s, 8 * j = s := ⟨_, rfl⟩
          have h8i : 8 * (j : Int) = (s : Int) := by omega
          obtain ⟨t, ht⟩ : ∃ t, 146 + s = t := ⟨_, rfl⟩
          have h2s : 146 + (s : Int) = (t : Int) := by omega
          have HT8 := Lib.hid (show t + 8 ≤ l.length ∧ t ≤ 250 by rw [HLEN.out]; omega)
          rw [hs, ht] at hLK
          obtain ⟨vj, hvj⟩ : ∃ v, Sgn.wd l t 8 = v := ⟨_, rfl⟩
          rw [hvj] at hLK
          obtain ⟨lk, hlk⟩ : ∃ k, Sgn.wds l j = k := ⟨_, rfl⟩
          rw [hlk] at hLK hjl ho gB
          have hlk6 : lk.length ≤ 6 := by omega
          have hcon := fun W (hy : Bts W (some ⟨g, o, none⟩) l) => refword_any t l (some ⟨g, o, none⟩) c W hy HT8.out
          rw [hvj, HNN.out] at hcon
          have HCON := Lib.hid hcon
          have HLK := Lib.hid hLK.symm
          have HLN := Lib.hid hLN
          have c19 : wr.cell? ⟨b4, 19, none⟩ = some (.slice xj lk.length cj) := (gB.at 19 (by omega)).1
          have f19 := (gB.at 19 (by omega)).2
          have yX : Bts wr (some ⟨g, o, none⟩) l := yW.low hBZ (fun y hy => by cases hy; exact hgV)
          have hs200 : s ≤ 200 := by omega
          clear hjl hLK hLN hs ht hvj hlk kW yW hcon
          go_wp2_with fail
          clear kX
          refine wp_region_schedB (B := b4) (fun X => X.cell? ⟨b4, 19, none⟩ = some (.slice xj lk.length cj) ∧ X.frozen? ⟨b4, 19, none⟩ = false ∧ OwnsW (b4 + 1) X xj cj lk ∧ Below wr.heap.size wr X ∧ b4 + 1 ≤ X.heap.size ∧ Bts X (some ⟨g, o, none⟩) l) (.two [0, 2, 3, 4, 5] 1 (.one [] 6 (.one [] 7 (.one [] 8 (.one [9] 10 (.done []))))) 6 (.two [] 1 (.one [] 7 (.one [] 8 (.one [9] 10 (.done [])))) 7 (.one [] 1 (.one [] 8 (.one [9] 10 (.done [])))))) (by kernel_rfl) (by kernel_rfl) (fun _ _ _ _ _ h => h) ⟨c19, f19, ho.turn ((Turns.refl (fun _ => False) wr).drew) (fun _ _ e => e), (Below.refl _ _).drew, by simp <;> omega, yX⟩ ?_
          clear c19 f19 ho yX
          rintro X ⟨c19, f19, ho, ht, hzX, yX⟩
          rw [wpSchedB]
          simp only [pick, List.map_cons, List.map_nil, Array.getD_eq_getD_getElem?, List.getElem?_toArray, List.getElem?_cons_succ, List.getElem?_cons_zero, Option.getD_some]
          repeat (first | go_big_quiet_step (fail) | quiet_step (fail))
          refine wpQuiet_nil ?_
          refine ⟨?_, ?_⟩
          · refine heavyB_want (by rfl) (fun K' hK' => ?_)
            go_simp
            refine hK' _ _ (Below.refl _ _) ?_
            clear hK' K'
            try simp only [Act.put, List.setIfInBounds_toArray, List.set_cons_zero, List.set_cons_succ]
            rw [wpSchedB]
            simp only [pick, List.map_nil, Array.getD_eq_getD_getElem?, List.getElem?_toArray, List.getElem?_cons_succ, List.getElem?_cons_zero, Option.getD_some]
            refine wpQuiet_nil ?_
            refine heavyB_want (by rfl) (fun K' hK' => ?_)
            go_simp
            refine (HCON.out _ yX).mono ?_
            rintro e X1 ⟨rfl, hb⟩
            refine hK' _ _ (hb.mono (by omega)) ?_
            clear hK' K'
            replace c19 := later hb c19
            replace f19 := (Below.frozen hb (by simp <;> omega)).trans f19
            replace ho := ho.later hb
            replace ht := thru ht hb
            have hz1 := hb.size
            replace hzX : b4 + 1 ≤ X1.heap.size := by omega
            clear hb hz1 yX
            try simp only [Act.put, List.setIfInBounds_toArray, List.set_cons_zero, List.set_cons_succ]
            rw [wpSchedB]
            simp only [pick, List.map_nil, Array.getD_eq_getD_getElem?, List.getElem?_toArray, List.getElem?_cons_succ, List.getElem?_cons_zero, Option.getD_some]
            refine wpQuiet_nil ?_
            refine heavyB_want (by rfl) (fun K' hK' => ?_)
            go_simp
            refine hK' _ _ ((Below.refl _ _).alloc (by omega) _) ?_
            clear hK' K'
            have hq1 := al (Below.refl _ X1) (.cells #[.int .u64 (num vj)] 22)
            have ny : (X1.alloc (.cells #[.int .u64 (num vj)] 22)).cell? ⟨X1.heap.size, 0, none⟩ = some (.int .u64 (num vj)) := by go_simp
            replace c19 := later hq1 c19
            replace f19 := (Below.frozen hq1 (by simp <;> omega)).trans f19
            replace ho := ho.later hq1
            replace ht := thru ht hq1
            have hzy : X1.heap.size < (X1.alloc (.cells #[.int .u64 (num vj)] 22)).heap.size := by simp
            obtain ⟨X2, hX2⟩ : ∃ Z : World, X1.alloc (.cells #[.int .u64 (num vj)] 22) = Z := ⟨_, rfl⟩
            rw [hX2] at ny c19 f19 ho ht hzy
            rw [hX2]
            clear hX2 hq1
            try simp only [Act.put, List.setIfInBounds_toArray, List.set_cons_zero, List.set_cons_succ]
            rw [wpSchedB]
            simp only [pick, List.map_nil, Array.getD_eq_getD_getElem?, List.getElem?_toArray, List.getElem?_cons_succ, List.getElem?_cons_zero, Option.getD_some]
            refine wpQuiet_nil ?_
            refine heavyB_want (by rfl) (fun K' hK' => ?_)
            refine wp_appWX _ _ rfl (B := b4 + 1) (l := lk) (cap := cj) (xa := xj) ho rfl (ad := ⟨X1.heap.size, 0, none⟩) (u := vj) rfl ny (by omega) (by omega) (fun x' c' X3 h1 h2 h3 _ => hK' _ _ (h2.mono (by omega)) ?_)
            clear hK' K'
            rw [HLK.out] at h1 ⊢
            replace c19 := later_lt h2 (a := ⟨b4, 19, none⟩) (by simp <;> omega) c19
            replace f19 := (h2.frozen (p := ⟨b4, 19, none⟩) (by simp <;> omega)).trans f19
            have ht3 : Below (b4 + 1) wr X3 := (ht.mono (by omega)).trans h2
            clear ho h2 h3 ny ht
            try simp only [Act.put, List.setIfInBounds_toArray, List.set_cons_zero, List.set_cons_succ]
            rw [wpSchedB]
            simp only [pick, List.map_cons, List.map_nil, Array.getD_eq_getD_getElem?, List.getElem?_toArray, List.getElem?_cons_succ, List.getElem?_cons_zero, Option.getD_some]
            repeat (first | go_big_quiet_step (fail) | quiet_step (fail))
            refine wpQuiet_nil ?_
            refine heavyB_want (by rfl) (fun K' hK' => ?_)
            go_simp
            refine hK' _ _ ((Below.refl _ _).setCell (p := ⟨b4, 19, none⟩) (Nat.le_refl _) _) ?_
            clear hK' K'
            try simp only [Act.put, List.setIfInBounds_toArray, List.set_cons_zero, List.set_cons_succ]
            rw [wpSchedB]
            simp only [List.map_nil]
            refine wpQuiet_nil ?_
            have ga := gB.low ht3 (by omega)
            have hz3 : b4 < X3.heap.size := by have := ht3.size; omega
            have hB3 : Below b4 Z X3 := hBZ.trans (ht3.mono (by omega))
            clear c19 f19 ht3
            go_wp2_with fail
            exact ⟨⟨j + 1, x', c', by omega, by go_num, h1.turn ((Turns.refl (fun b => b = b4) X3).setCell (p := ⟨b4, 19, none⟩) (fun _ => rfl) _) (fun b hb e => by have h0 := (h1.low b hb).1; have e' : b = b4 := e; omega), by rw [← HLN.out]; exact sig_path ga _ _ _, hB3.setCell (p := ⟨b4, 19, none⟩) (Nat.le_refl _) _, by simp <;> omega⟩, by simp [intOf]; omega⟩
          · refine heavyB_want (by rfl) (fun K' hK' => ?_)
            go_simp
            refine (HCON.out _ yX).mono ?_
            rintro e X1 ⟨rfl, hb⟩
            refine hK' _ _ (hb.mono (by omega)) ?_
            clear hK' K'
            replace c19 := later hb c19
            replace f19 := (Below.frozen hb (by simp <;> omega)).trans f19
            replace ho := ho.later hb
            replace ht := thru ht hb
            have hz1 := hb.size
            replace hzX : b4 + 1 ≤ X1.heap.size := by omega
            clear hb hz1 yX
            try simp only [Act.put, List.setIfInBounds_toArray, List.set_cons_zero, List.set_cons_succ]
            rw [wpSchedB]
            simp only [pick, List.map_nil, Array.getD_eq_getD_getElem?, List.getElem?_toArray, List.getElem?_cons_succ, List.getElem?_cons_zero, Option.getD_some]
            refine wpQuiet_nil ?_
            refine ⟨?_, ?_⟩
            · refine heavyB_want (by rfl) (fun K' hK' => ?_)
              go_simp
              refine hK' _ _ (Below.refl _ _) ?_
              clear hK' K'
              try simp only [Act.put, List.setIfInBounds_toArray, List.set_cons_zero, List.set_cons_succ]
              rw [wpSchedB]
              simp only [pick, List.map_nil, Array.getD_eq_getD_getElem?, List.getElem?_toArray, List.getElem?_cons_succ, List.getElem?_cons_zero, Option.getD_some]
              refine wpQuiet_nil ?_
              refine heavyB_want (by rfl) (fun K' hK' => ?_)
              go_simp
              refine hK' _ _ ((Below.refl _ _).alloc (by omega) _) ?_
              clear hK' K'
              have hq1 := al (Below.refl _ X1) (.cells #[.int .u64 (num vj)] 22)
              have ny : (X1.alloc (.cells #[.int .u64 (num vj)] 22)).cell? ⟨X1.heap.size, 0, none⟩ = some (.int .u64 (num vj)) := by go_simp
              replace c19 := later hq1 c19
              replace f19 := (Below.frozen hq1 (by simp <;> omega)).trans f19
              replace ho := ho.later hq1
              replace ht := thru ht hq1
              have hzy : X1.heap.size < (X1.alloc (.cells #[.int .u64 (num vj)] 22)).heap.size := by simp
              obtain ⟨X2, hX2⟩ : ∃ Z : World, X1.alloc (.cells #[.int .u64 (num vj)] 22) = Z := ⟨_, rfl⟩
              rw [hX2] at ny c19 f19 ho ht hzy
              rw [hX2]
              clear hX2 hq1
              try simp only [Act.put, List.setIfInBounds_toArray, List.set_cons_zero, List.set_cons_succ]
              rw [wpSchedB]
              simp only [pick, List.map_nil, Array.getD_eq_getD_getElem?, List.getElem?_toArray, List.getElem?_cons_succ, List.getElem?_cons_zero, Option.getD_some]
              refine wpQuiet_nil ?_
              refine heavyB_want (by rfl) (fun K' hK' => ?_)
              refine wp_appWX _ _ rfl (B := b4 + 1) (l := lk) (cap := cj) (xa := xj) ho rfl (ad := ⟨X1.heap.size, 0, none⟩) (u := vj) rfl ny (by omega) (by omega) (fun x' c' X3 h1 h2 h3 _ => hK' _ _ (h2.mono (by omega)) ?_)
              clear hK' K'
              rw [HLK.out] at h1 ⊢
              replace c19 := later_lt h2 (a := ⟨b4, 19, none⟩) (by simp <;> omega) c19
              replace f19 := (h2.frozen (p := ⟨b4, 19, none⟩) (by simp <;> omega)).trans f19
              have ht3 : Below (b4 + 1) wr X3 := (ht.mono (by omega)).trans h2
              clear ho h2 h3 ny ht
              try simp only [Act.put, List.setIfInBounds_toArray, List.set_cons_zero, List.set_cons_succ]
              rw [wpSchedB]
              simp only [pick, List.map_cons, List.map_nil, Array.getD_eq_getD_getElem?, List.getElem?_toArray, List.getElem?_cons_succ, List.getElem?_cons_zero, Option.getD_some]
              repeat (first | go_big_quiet_step (fail) | quiet_step (fail))
              refine wpQuiet_nil ?_
              refine heavyB_want (by rfl) (fun K' hK' => ?_)
              go_simp
              refine hK' _ _ ((Below.refl _ _).setCell (p := ⟨b4, 19, none⟩) (Nat.le_refl _) _) ?_
              clear hK' K'
              try simp only [Act.put, List.setIfInBounds_toArray, List.set_cons_zero, List.set_cons_succ]
              rw [wpSchedB]
              simp only [List.map_nil]
              refine wpQuiet_nil ?_
              have ga := gB.low ht3 (by omega)
              have hz3 : b4 < X3.heap.size := by have := ht3.size; omega
              have hB3 : Below b4 Z X3 := hBZ.trans (ht3.mono (by omega))
              clear c19 f19 ht3
              go_wp2_with fail
              exact ⟨⟨j + 1, x', c', by omega, by go_num, h1.turn ((Turns.refl (fun b => b = b4) X3).setCell (p := ⟨b4, 19, none⟩) (fun _ => rfl) _) (fun b hb e => by have h0 := (h1.low b hb).1; have e' : b = b4 := e; omega), by rw [← HLN.out]; exact sig_path ga _ _ _, hB3.setCell (p := ⟨b4, 19, none⟩) (Nat.le_refl _) _, by simp <;> omega⟩, by simp [intOf]; omega⟩
            · refine heavyB_want (by rfl) (fun K' hK' => ?_)
              go_simp
              refine hK' _ _ ((Below.refl _ _).alloc (by omega) _) ?_
              clear hK' K'
              have hq1 := al (Below.refl _ X1) (.cells #[.int .u64 (num vj)] 22)
              have ny : (X1.alloc (.cells #[.int .u64 (num vj)] 22)).cell? ⟨X1.heap.size, 0, none⟩ = some (.int .u64 (num vj)) := by go_simp
              replace c19 := later hq1 c19
              replace f19 := (Below.frozen hq1 (by simp <;> omega)).trans f19
              replace ho := ho.later hq1
              replace ht := thru ht hq1
              have hzy : X1.heap.size < (X1.alloc (.cells #[.int .u64 (num vj)] 22)).heap.size := by simp
              obtain ⟨X2, hX2⟩ : ∃ Z : World, X1.alloc (.cells #[.int .u64 (num vj)] 22) = Z := ⟨_, rfl⟩
              rw [hX2] at ny c19 f19 ho ht hzy
              rw [hX2]
              clear hX2 hq1
              try simp only [Act.put, List.setIfInBounds_toArray, List.set_cons_zero, List.set_cons_succ]
              rw [wpSchedB]
              simp only [pick, List.map_nil, Array.getD_eq_getD_getElem?, List.getElem?_toArray, List.getElem?_cons_succ, List.getElem?_cons_zero, Option.getD_some]
              refine wpQuiet_nil ?_
              refine heavyB_want (by rfl) (fun K' hK' => ?_)
              go_simp
              refine hK' _ _ (Below.refl _ _) ?_
              clear hK' K'
              try simp only [Act.put, List.setIfInBounds_toArray, List.set_cons_zero, List.set_cons_succ]
              rw [wpSchedB]
              simp only [pick, List.map_nil, Array.getD_eq_getD_getElem?, List.getElem?_toArray, List.getElem?_cons_succ, List.getElem?_cons_zero, Option.getD_some]
              refine wpQuiet_nil ?_
              refine heavyB_want (by rfl) (fun K' hK' => ?_)
              refine wp_appWX _ _ rfl (B := b4 + 1) (l := lk) (cap := cj) (xa := xj) ho rfl (ad := ⟨X1.heap.size, 0, none⟩) (u := vj) rfl ny (by omega) (by omega) (fun x' c' X3 h1 h2 h3 _ => hK' _ _ (h2.mono (by omega)) ?_)
              clear hK' K'
              rw [HLK.out] at h1 ⊢
              replace c19 := later_lt h2 (a := ⟨b4, 19, none⟩) (by simp <;> omega) c19
              replace f19 := (h2.frozen (p := ⟨b4, 19, none⟩) (by simp <;> omega)).trans f19
              have ht3 : Below (b4 + 1) wr X3 := (ht.mono (by omega)).trans h2
              clear ho h2 h3 ny ht
              try simp only [Act.put, List.setIfInBounds_toArray, List.set_cons_zero, List.set_cons_succ]
              rw [wpSchedB]
              simp only [pick, List.map_cons, List.map_nil, Array.getD_eq_getD_getElem?, List.getElem?_toArray, List.getElem?_cons_succ, List.getElem?_cons_zero, Option.getD_some]
              repeat (first | go_big_quiet_step (fail) | quiet_step (fail))
              refine wpQuiet_nil ?_
              refine heavyB_want (by rfl) (fun K' hK' => ?_)
              go_simp
              refine hK' _ _ ((Below.refl _ _).setCell (p := ⟨b4, 19, none⟩) (Nat.le_refl _) _) ?_
              clear hK' K'
              try simp only [Act.put, List.setIfInBounds_toArray, List.set_cons_zero, List.set_cons_succ]
              rw [wpSchedB]
              simp only [List.map_nil]
              refine wpQuiet_nil ?_
              have ga := gB.low ht3 (by omega)
              have hz3 : b4 < X3.heap.size := by have := ht3.size; omega
              have hB3 : Below b4 Z X3 := hBZ.trans (ht3.mono (by omega))
              clear c19 f19 ht3
              go_wp2_with fail
              exact ⟨⟨j + 1, x', c', by omega, by go_num, h1.turn ((Turns.refl (fun b => b = b4) X3).setCell (p := ⟨b4, 19, none⟩) (fun _ => rfl) _) (fun b hb e => by have h0 := (h1.low b hb).1; have e' : b = b4 := e; omega), by rw [← HLN.out]; exact sig_path ga _ _ _, hB3.setCell (p := ⟨b4, 19, none⟩) (Nat.le_refl _) _, by simp <;> omega⟩, by simp [intOf]; omega⟩
        · obtain rfl : j = m := by omega
          rw [hjl] at gB
          have hl1 := run_loadS gB
          have a2 : Blk wr a 0 20 zeroS := a1.low hBZ haV
          have hB2 := hBw.trans (hBZ.mono (by omega))
          have hjj : decide (j < j) = false := decide_eq_false hlt
          clear yW kW
          go_wp2_with (first | (refine wpList_loadN rfl _ (.tmp 4) rfl (b := b4) (q := 0) rfl hl1 ?_) | (refine wpList_storeB rfl rfl _ (.tmp 2) _ rfl (b := a) (q := 0) rfl (n := 20) (v := sigV (l0.toNat : Int) F xj j cj) rfl a2 (fun j _ => sig_one _ _ _ _ _ j) sig_size ?_; intro Y9 t1; refine Hid.out ?_))
          unfold Hid
          have hB3 := t1.below w.heap.size w (by omega) hB2
          have l9 := run_loadS t1.blk
          have tt := t1.turns (fun b => b = a) wr (fun _ => rfl) (Turns.refl _ _)
          have ho9 := ho.turn tt (fun b hb e => by have h0 := (ho.low b hb).1; have e' : b = a := e; omega)
          clear t1 tt hl1 a1 a2 gB ho
          go_wp2_with fail
          refine bodyPost_ret (v := .tuple #[aggN 20 (sigV (l0.toNat : Int) F xj j cj), .int .i64 0]) ?_ rfl ⟨xj, cj, rfl, ho9.weaken (by omega), hB3⟩
          rw [results_cell_tmp rfl]
          simp [asAddr, Result.andThen]
          rw [l9]

end Go.Proofs.Ytjpicnfkmfjnoaa
