/- WALKS of the reference of the sign layer: Sign. -/
import Derived.Test.YtjpicnfkmfjnoaaSgnV
import Derived.Test.YtjpicnfkmfjnoaaSgnR
namespace Go.Proofs.Ytjpicnfkmfjnoaa
open Go.RowKit

theorem sig_set {W : World} {b : Nat} {key : Int} {f : Nat → D64} {x : Option Addr} {n c : Nat} (g : Blk W b 0 20 (sigV key f x n c)) (i : Nat) (hi : i < 18) (v : D64) : Blk (W.setCell ⟨b, 1 + i, none⟩ (.int .u64 (num v))) b 0 20 (sigV key (fun k => if k = i then v else f k) x n c) := by
  intro j hj
  rw [Nat.zero_add]
  refine ⟨?_, by rw [World.frozen?_setCell]; exact (g.at j hj).2⟩
  by_cases h1 : j = 1 + i
  · subst h1
    rw [World.cell?_setCell_same' _ _ _ (by rw [(g.at (1 + i) (by omega)).1]; rfl)]
    unfold sigV
    rw [if_neg (by omega), if_pos (by omega), Nat.add_sub_cancel_left]
    simp
  · rw [World.cell?_setCell_other _ _ _ _ (by simp <;> omega), (g.at j hj).1]
    unfold sigV
    by_cases h0 : j = 0
    · rw [if_pos h0, if_pos h0]
    · rw [if_neg h0, if_neg h0]
      by_cases h19 : j < 19
      · rw [if_pos h19, if_pos h19]
        dsimp only
        rw [if_neg (by omega)]
      · rw [if_neg h19, if_neg h19]
theorem sib_lt2 (q h j : Nat) (hq : q < 2 ^ h) (hj : j < h) : (Sgn.sib (q / 2 ^ j) + 1) * 2 ^ j ≤ 2 ^ h := by
  have hM : 2 ^ h = 2 * 2 ^ (h - (j + 1)) * 2 ^ j := by rw [Nat.mul_assoc, ← Nat.pow_add, show h - (j + 1) + j = h - 1 by omega, ← Nat.pow_succ', show (h - 1).succ = h by omega]
  have hd : q / 2 ^ j < 2 * 2 ^ (h - (j + 1)) := by
    refine Nat.div_lt_of_lt_mul ?_
    rw [Nat.mul_comm, ← hM]; exact hq
  rw [hM]
  exact Nat.mul_le_mul_right _ (sib_lt _ _ hd)
def RsRel (seed : D64) (h q : Nat) (f : Nat → D64) (b4 : Nat) (Z : World) (u12 u13 : Value) (wr : World) : Prop :=
  ∃ j x c, j ≤ h ∧ u13 = .int .i64 (j : Int) ∧ u12 = .int .i64 ((q / 2 ^ j : Nat) : Int) ∧ OwnsW (b4 + 1) wr x c ((Sgn.path seed h q).take j) ∧ Blk wr b4 0 20 (sigV (q : Int) f x ((Sgn.path seed h q).take j).length c) ∧ Below b4 Z wr ∧ b4 < wr.heap.size
set_option maxHeartbeats 4000000 in
theorem refSign_ok (seed : D64) (h q : Nat) (d : D64) (h6 : h ≤ 6) (hq : q < 2 ^ h) (w : World) : Calls Try.prog 22 #[.int .u64 (num seed), .int .i64 (h : Int), .int .i64 (q : Int), .int .u64 (num d)] w fun e w' => ∃ x c, e = .returned (aggN 20 (sigV (q : Int) (fun i => Sgn.val seed (u8z (q : Int)) (u8z ((q : Int) / 256)) i (Sgn.dig d i)) x h c)) ∧ OwnsW w.heap.size w' x c (Sgn.path seed h q) ∧ Below w.heap.size w w' := by
  have hq64 : q < 64 := Nat.lt_of_lt_of_le hq (Nat.pow_le_pow_right (n := 2) (by decide) h6)
  have HQ := Lib.hid hq
  clear hq
  go_enter Try.func22, Try.ntmps22
  go_wp2_with (refine wpList_allocTo 8 rfl rfl _ rfl sig_zero ?_; intro X8 a8 hb hz8; refine Hid.out ?_)
  unfold Hid
  try simp only [Act.put, List.setIfInBounds_toArray, List.set_cons_zero, List.set_cons_succ]
  obtain ⟨b8, e8⟩ : ∃ a, w.heap.size = a := ⟨_, rfl⟩
  have s8 : w.heap.size ≤ b8 := by omega
  have hB := hb
  rw [e8] at a8 hz8 ⊢
  have z8 : b8 < X8.heap.size := by omega
  clear hb e8 hz8
  go_wp2_with (refine wpList_allocTo 9 rfl rfl _ rfl sig_zero ?_; intro X9 a9 hb hz9; refine Hid.out ?_)
  unfold Hid
  try simp only [Act.put, List.setIfInBounds_toArray, List.set_cons_zero, List.set_cons_succ]
  obtain ⟨b4, e4⟩ : ∃ a, X8.heap.size = a := ⟨_, rfl⟩
  have s84 : b8 < b4 := by omega
  replace hB := thru hB hb
  replace a8 := a8.later hb
  rw [e4] at a9 hz9 ⊢
  clear hb e4 z8
  go_wp2_with (refine wpList_storeB rfl rfl _ (.tmp 9) _ rfl (b := b4) (q := 0) rfl (n := 20) (v := sigV (q : Int) (fun _ => 0#64) none 0 0) rfl a9 (fun j _ => sig_one _ _ _ _ _ j) sig_size ?_; intro Y9 t1; refine Hid.out ?_)
  unfold Hid
  replace hB := t1.below _ _ (by omega) hB
  replace a9 := t1.blk
  replace a8 := t1.other (.inl (by omega)) a8
  have z4 : b4 < Y9.heap.size := by rw [t1.size]; omega
  clear t1 hz9
  go_wp2_with fail
  refine (refDigits_any d _).mono ?_
  rintro e W1 ⟨rfl, hb⟩
  replace hB := thru hB hb
  replace a9 := a9.later hb
  replace a8 := a8.later hb
  replace z4 : b4 < W1.heap.size := Nat.lt_of_lt_of_le z4 hb.size
  clear hb
  go_wp2_with (refine wpList_allocTo 10 rfl rfl _ rfl arrI_zero ?_; intro Xp0 a_b10 hb0 hz0; refine Hid.out ?_)
  unfold Hid
  try simp only [Act.put, List.setIfInBounds_toArray, List.set_cons_zero, List.set_cons_succ]
  obtain ⟨b10, e_b10⟩ : ∃ a, W1.heap.size = a := ⟨_, rfl⟩
  have s_b10 : W1.heap.size ≤ b10 := by omega
  have hb := hb0
  rw [e_b10] at a_b10 hz0 ⊢
  clear hb0
  have hz : b10 < Xp0.heap.size := by omega
  clear e_b10 hz0
  go_wp2_with (refine wpList_storeB rfl rfl _ (.tmp 10) _ rfl (b := b10) (q := 0) rfl (n := 18) (v := digV d) (aggN_arr _).symm a_b10 (fun _ _ => rfl) arrI_size ?_; intro Yp0 t1; refine Hid.out ?_)
  unfold Hid
  replace hb := t1.below _ _ (by omega) hb
  replace a_b10 := t1.blk
  rw [← t1.size] at hz
  clear t1
  replace a9 := a9.later hb
  replace a8 := a8.later hb
  replace hB := thru hB hb
  clear hb hz

  have hb4 : b4 < b10 := by omega
  have hz10 : b10 < Yp0.heap.size := World.block_lt_of_cell? _ _ (a_b10.at 0 (by omega)).1
  clear z4 s_b10
  obtain ⟨f, hf⟩ : ∃ f, (fun i => Sgn.val seed (u8z (q : Int)) (u8z ((q : Int) / 256)) i (Sgn.dig d i)) = f := ⟨_, rfl⟩
  have HF := Lib.hid hf
  clear hf
  have A10 := Lib.hid a_b10
  obtain ⟨Z0, hZ0⟩ : ∃ Z, Yp0 = Z := ⟨_, rfl⟩
  rw [hZ0] at a8 a9 A10 hB hz10 ⊢
  clear a_b10 hZ0
  go_wp2_with fail
  go_loopw [11] (fun u11 wr => ∃ i : Nat, i ≤ 18 ∧ u11 = .int .i64 (i : Int) ∧ Below b4 Z0 wr ∧ Blk wr b4 0 20 (sigV (q : Int) (fun k => if k < i then f k else 0#64) none 0 0) ∧ Blk wr b10 0 18 (digV d) ∧ b10 < wr.heap.size) (fun u11 _ => 18 - (intOf u11).toNat)
  case atStart => exact ⟨0, by omega, rfl, Below.refl _ _, a9.congr (fun j hj => by simp), A10.out, hz10⟩
  case round =>
    clear a9 A10
    obtain ⟨i, hi, rfl, hBZ, gB, gD, hzr⟩ := hrel
    by_cases hlt : i < 18
    · have hki : decide ((i : Int) < 18) = true := by simp; omega
      have c1 : wr.cell? ⟨b10, i, none⟩ = some (.int .i64 ((Sgn.dig d i : Nat) : Int)) := (gD.at i hlt).1
      have hd15 := Sgn.dig_le d i
      have hfi : f i = Sgn.val seed (u8z (q : Int)) (u8z ((q : Int) / 256)) i (Sgn.dig d i) := by rw [← HF.out]
      obtain ⟨x, hx⟩ : ∃ x, Sgn.dig d i = x := ⟨_, rfl⟩
      rw [hx] at c1 hd15 hfi
      have HFI := Lib.hid hfi
      clear hx hfi
      go_wp2_with fail
      refine (refValue_any seed (q : Int) i x hd15 _).mono ?_
      rintro e W2 ⟨rfl, hb⟩
      rw [← HFI.out]
      have gB2 := gB.later hb
      have gD2 := gD.later hb
      have cj : W2.cell? ⟨b4, 1 + i, none⟩ = some (.int .u64 (num (if i < i then f i else 0#64))) := (gB2.chain i hlt).1
      have fj := (gB2.chain i hlt).2
      have hBZ2 : Below b4 Z0 W2 := hBZ.trans (hb.mono (by omega))
      have hzr2 : b10 < W2.heap.size := Nat.lt_of_lt_of_le hzr hb.size
      clear gB gD hBZ hb c1 hzr
      go_wp2_with fail
      exact ⟨⟨i + 1, by omega, by go_num, hBZ2.setCell (p := ⟨b4, 1 + i, none⟩) (Nat.le_refl _) _, (sig_set gB2 i hlt (f i)).congr (fun j hj => by
        unfold sigV
        by_cases h0 : j = 0
        · rw [if_pos h0, if_pos h0]
        · rw [if_neg h0, if_neg h0]
          by_cases h19 : j < 19
          · rw [if_pos h19, if_pos h19]
            dsimp only
            by_cases hji : j - 1 = i
            · rw [if_pos hji, if_pos (by omega), hji]
            · rw [if_neg hji]
              by_cases hl : j - 1 < i
              · rw [if_pos hl, if_pos (by omega)]
              · rw [if_neg hl, if_neg (by omega)]
          · rw [if_neg h19, if_neg h19]), gD2.other (p := ⟨b4, 1 + i, none⟩) (show b4 ≠ b10 by omega) _, by simp <;> omega⟩, by simp [intOf]; omega⟩
    · obtain rfl : i = 18 := by omega
      rw [show ((18 : Nat) : Int) = 18 from rfl]
      have gB1 : Blk wr b4 0 20 (sigV (q : Int) f none 0 0) := gB.congr (fun j hj => by
        unfold sigV
        by_cases h0 : j = 0
        · rw [if_pos h0, if_pos h0]
        · rw [if_neg h0, if_neg h0]
          by_cases h19 : j < 19
          · rw [if_pos h19, if_pos h19]
            dsimp only
            rw [if_pos (by omega)]
          · rw [if_neg h19, if_neg h19])
      have hzb : b4 < wr.heap.size := by omega
      replace a8 := a8.low hBZ s84
      have hBw : Below w.heap.size w wr := hB.trans (hBZ.mono (by omega))
      obtain ⟨Z, hZ⟩ : ∃ Z, wr = Z := ⟨_, rfl⟩
      rw [hZ] at gB1 hzb a8 hBw ⊢
      clear gB gD hBZ hzr hZ
      go_wp2_with fail
      go_loopw [12, 13] (fun u12 u13 wr => RsRel seed h q f b4 Z u12 u13 wr) (fun _ u13 _ => h - (intOf u13).toNat)
      case atStart => exact ⟨0, none, 0, by omega, rfl, by rw [Nat.pow_zero, Nat.div_one], OwnsW.nil _ _, gB1, Below.refl _ _, hzb⟩
      case round =>
        clear gB1
        obtain ⟨j, xj, cj, hj, rfl, rfl, ho, gB, hBZ, hzw⟩ := hrel
        by_cases hlt : j < h
        · have hjh : decide (j < h) = true := decide_eq_true hlt
          have hpt := path_take seed h q j hlt
          have hbd := sib_lt2 q h j HQ.out hlt
          have hp64 : 2 ^ h ≤ 64 := Nat.pow_le_pow_right (n := 2) (by decide) h6
          have hq2 : q / 2 ^ (j + 1) = q / 2 ^ j / 2 := by rw [Nat.pow_succ, Nat.div_div_eq_div_mul]
          have hqk : q / 2 ^ j < 64 := Nat.lt_of_le_of_lt (Nat.div_le_self _ _) hq64
          obtain ⟨qk, hqk2⟩ : ∃ m, q / 2 ^ j = m := ⟨_, rfl⟩
          rw [hqk2] at hpt hbd hq2 hqk ⊢
          obtain ⟨ln, hln⟩ : ∃ l, (Sgn.path seed h q).take (j + 1) = l := ⟨_, rfl⟩
          have hlen : ((Sgn.path seed h q).take (j + 1)).length = j + 1 := by rw [List.length_take, Sgn.path_length]; omega
          rw [hln] at hpt hlen
          have hlk6 : ((Sgn.path seed h q).take j).length ≤ 6 := by rw [List.length_take, Sgn.path_length]; omega
          obtain ⟨lk, hlk⟩ : ∃ l, (Sgn.path seed h q).take j = l := ⟨_, rfl⟩
          rw [hlk] at hpt ho gB hlk6
          obtain ⟨sq, hsq⟩ : ∃ m, Sgn.sib qk = m := ⟨_, rfl⟩
          obtain ⟨vj, hvj⟩ : ∃ m, Sgn.node seed j (Sgn.sib qk) = m := ⟨_, rfl⟩
          rw [hvj] at hpt
          rw [hsq] at hbd hvj
          have HND := Lib.hid hvj
          have HLK := Lib.hid hpt
          have HLN0 := Lib.hid hln
          have HNB := Lib.hid (show (sq + 1) * 2 ^ j ≤ 10000 by omega)
          obtain ⟨q2, hq2v⟩ : ∃ m, qk / 2 = m := ⟨_, rfl⟩
          rw [hq2v] at hq2
          have HQ2 := Lib.hid hq2
          have c19 : wr.cell? ⟨b4, 19, none⟩ = some (.slice xj lk.length cj) := (gB.at 19 (by omega)).1
          have f19 := (gB.at 19 (by omega)).2
          have hqd : (qk : Int) / 2 = (q2 : Int) := by omega
          have hqdt : (qk : Int).tdiv 2 = (q2 : Int) := by rw [Int.tdiv_eq_ediv_of_nonneg (by omega)]; omega
          clear hpt hbd hq2 hq2v hqk2 hln hlen hlk hvj hp64
          by_cases he : qk % 2 = 0
          · have hsE : sq = qk + 1 := by rw [← hsq]; unfold Sgn.sib; rw [if_pos he]
            have hm0 : (qk : Int).tmod 2 = 0 := by rw [Int.tmod_eq_emod_of_nonneg (by omega)]; omega
            have hm1 : (qk : Int) % 2 = 0 := by omega
            have hsI : (qk : Int) + 1 = (sq : Int) := by omega
            have hsw : wrap64 ((qk : Int) + 1) = (sq : Int) := by rw [hsI]; exact IntWalk.wrap64_in _ (by omega)
            clear he hsE hsq
            go_wp2_with fail
            refine wp_region_schedB (B := b4) (fun X => X.cell? ⟨b4, 19, none⟩ = some (.slice xj lk.length cj) ∧ X.frozen? ⟨b4, 19, none⟩ = false ∧ OwnsW (b4 + 1) X xj cj lk ∧ Below wr.heap.size wr X ∧ b4 + 1 ≤ X.heap.size) (.two [0, 2, 3, 4, 5] 1 (.one [] 6 (.one [] 7 (.one [] 8 (.one [9] 10 (.done []))))) 6 (.two [] 1 (.one [] 7 (.one [] 8 (.one [9] 10 (.done [])))) 7 (.one [] 1 (.one [] 8 (.one [9] 10 (.done [])))))) (by kernel_rfl) (by kernel_rfl) (fun _ _ _ _ _ h => h) ⟨c19, f19, ho.turn ((Turns.refl (fun _ => False) wr).drew) (fun _ _ e => e), (Below.refl _ _).drew, by simp <;> omega⟩ ?_
            clear c19 f19 ho
            rintro X ⟨c19, f19, ho, ht, hzX⟩
            rw [wpSchedB]
            simp only [pick, List.map_cons, List.map_nil, Array.getD_eq_getD_getElem?, List.getElem?_toArray, List.getElem?_cons_succ, List.getElem?_cons_zero, Option.getD_some]
            repeat (first | go_big_quiet_step (fail) | quiet_step (fail))
            refine wpQuiet_nil ?_
            refine ⟨?_, ?_⟩
            · refine heavyB_want (by rfl) (fun K' hK' => ?_)
              go_simp
              refine hK' _ _ (Below.refl _ _) ?_
              clear hK' K'
              try simp only [Act.put, List.setIfInBounds_toArray, List.set_cons_zero, List.set_cons_succ]
              rw [wpSchedB]
              simp only [pick, List.map_nil, Array.getD_eq_getD_getElem?, List.getElem?_toArray, List.getElem?_cons_succ, List.getElem?_cons_zero, Option.getD_some]
              refine wpQuiet_nil ?_
              refine heavyB_want (by rfl) (fun K' hK' => ?_)
              go_simp
              refine (refNode_any seed j sq _ (by omega) HNB.out).mono ?_
              rintro e X1 ⟨rfl, hb⟩
              refine hK' _ _ (hb.mono (by omega)) ?_
              clear hK' K'
              rw [HND.out]
              replace c19 := later hb c19
              replace f19 := (Below.frozen hb (by simp <;> omega)).trans f19
              replace ho := ho.later hb
              replace ht := thru ht hb
              have hz1 := hb.size
              replace hzX : b4 + 1 ≤ X1.heap.size := by omega
              clear hb hz1 
              try simp only [Act.put, List.setIfInBounds_toArray, List.set_cons_zero, List.set_cons_succ]
              rw [wpSchedB]
              simp only [pick, List.map_nil, Array.getD_eq_getD_getElem?, List.getElem?_toArray, List.getElem?_cons_succ, List.getElem?_cons_zero, Option.getD_some]
              refine wpQuiet_nil ?_
              refine heavyB_want (by rfl) (fun K' hK' => ?_)
              go_simp
              refine hK' _ _ ((Below.refl _ _).alloc (by omega) _) ?_
              clear hK' K'
              have hq1 := al (Below.refl _ X1) (.cells #[.int .u64 (num vj)] 22)
              have ny : (X1.alloc (.cells #[.int .u64 (num vj)] 22)).cell? ⟨X1.heap.size, 0, none⟩ = some (.int .u64 (num vj)) := by go_simp
              replace c19 := later hq1 c19
              replace f19 := (Below.frozen hq1 (by simp <;> omega)).trans f19
              replace ho := ho.later hq1
              replace ht := thru ht hq1
              have hzy : X1.heap.size < (X1.alloc (.cells #[.int .u64 (num vj)] 22)).heap.size := by simp
              obtain ⟨X2, hX2⟩ : ∃ Z : World, X1.alloc (.cells #[.int .u64 (num vj)] 22) = Z := ⟨_, rfl⟩
              rw [hX2] at ny c19 f19 ho ht hzy
              rw [hX2]
              clear hX2 hq1
              try simp only [Act.put, List.setIfInBounds_toArray, List.set_cons_zero, List.set_cons_succ]
              rw [wpSchedB]
              simp only [pick, List.map_nil, Array.getD_eq_getD_getElem?, List.getElem?_toArray, List.getElem?_cons_succ, List.getElem?_cons_zero, Option.getD_some]
              refine wpQuiet_nil ?_
              refine heavyB_want (by rfl) (fun K' hK' => ?_)
              refine wp_appWX _ _ rfl (B := b4 + 1) (l := lk) (cap := cj) (xa := xj) ho rfl (ad := ⟨X1.heap.size, 0, none⟩) (u := vj) rfl ny (by omega) (by omega) (fun x' c' X3 h1 h2 h3 _ => hK' _ _ (h2.mono (by omega)) ?_)
              clear hK' K'
              rw [HLK.out] at h1 ⊢
              replace c19 := later_lt h2 (a := ⟨b4, 19, none⟩) (by simp <;> omega) c19
              replace f19 := (h2.frozen (p := ⟨b4, 19, none⟩) (by simp <;> omega)).trans f19
              have ht3 : Below (b4 + 1) wr X3 := (ht.mono (by omega)).trans h2
              clear ho h2 h3 ny ht
              try simp only [Act.put, List.setIfInBounds_toArray, List.set_cons_zero, List.set_cons_succ]
              rw [wpSchedB]
              simp only [pick, List.map_cons, List.map_nil, Array.getD_eq_getD_getElem?, List.getElem?_toArray, List.getElem?_cons_succ, List.getElem?_cons_zero, Option.getD_some]
              repeat (first | go_big_quiet_step (fail) | quiet_step (fail))
              refine wpQuiet_nil ?_
              refine heavyB_want (by rfl) (fun K' hK' => ?_)
              go_simp
              refine hK' _ _ ((Below.refl _ _).setCell (p := ⟨b4, 19, none⟩) (Nat.le_refl _) _) ?_
              clear hK' K'
              try simp only [Act.put, List.setIfInBounds_toArray, List.set_cons_zero, List.set_cons_succ]
              rw [wpSchedB]
              simp only [List.map_nil]
              refine wpQuiet_nil ?_
              have ga := gB.low ht3 (by omega)
              have hz3 : b4 < X3.heap.size := by have := ht3.size; omega
              have hB3 : Below b4 Z X3 := hBZ.trans (ht3.mono (by omega))
              clear c19 f19 ht3
              go_wp2_with fail
              exact ⟨⟨j + 1, x', c', by omega, by go_num, by rw [HQ2.out], by rw [HLN0.out]; exact h1.turn ((Turns.refl (fun b => b = b4) X3).setCell (p := ⟨b4, 19, none⟩) (fun _ => rfl) _) (fun b hb e => by have h0 := (h1.low b hb).1; have e' : b = b4 := e; omega), by rw [HLN0.out]; exact sig_path ga _ _ _, hB3.setCell (p := ⟨b4, 19, none⟩) (Nat.le_refl _) _, by simp <;> omega⟩, by simp [intOf]; omega⟩
            · refine heavyB_want (by rfl) (fun K' hK' => ?_)
              go_simp
              refine (refNode_any seed j sq _ (by omega) HNB.out).mono ?_
              rintro e X1 ⟨rfl, hb⟩
              refine hK' _ _ (hb.mono (by omega)) ?_
              clear hK' K'
              rw [HND.out]
              replace c19 := later hb c19
              replace f19 := (Below.frozen hb (by simp <;> omega)).trans f19
              replace ho := ho.later hb
              replace ht := thru ht hb
              have hz1 := hb.size
              replace hzX : b4 + 1 ≤ X1.heap.size := by omega
              clear hb hz1 
              try simp only [Act.put, List.setIfInBounds_toArray, List.set_cons_zero, List.set_cons_succ]
              rw [wpSchedB]
              simp only [pick, List.map_nil, Array.getD_eq_getD_getElem?, List.getElem?_toArray, List.getElem?_cons_succ, List.getElem?_cons_zero, Option.getD_some]
              refine wpQuiet_nil ?_
              refine ⟨?_, ?_⟩
              · refine heavyB_want (by rfl) (fun K' hK' => ?_)
                go_simp
                refine hK' _ _ (Below.refl _ _) ?_
                clear hK' K'
                try simp only [Act.put, List.setIfInBounds_toArray, List.set_cons_zero, List.set_cons_succ]
                rw [wpSchedB]
                simp only [pick, List.map_nil, Array.getD_eq_getD_getElem?, List.getElem?_toArray, List.getElem?_cons_succ, List.getElem?_cons_zero, Option.getD_some]
                refine wpQuiet_nil ?_
                refine heavyB_want (by rfl) (fun K' hK' => ?_)
                go_simp
                refine hK' _ _ ((Below.refl _ _).alloc (by omega) _) ?_
                clear hK' K'
                have hq1 := al (Below.refl _ X1) (.cells #[.int .u64 (num vj)] 22)
                have ny : (X1.alloc (.cells #[.int .u64 (num vj)] 22)).cell? ⟨X1.heap.size, 0, none⟩ = some (.int .u64 (num vj)) := by go_simp
                replace c19 := later hq1 c19
                replace f19 := (Below.frozen hq1 (by simp <;> omega)).trans f19
                replace ho := ho.later hq1
                replace ht := thru ht hq1
                have hzy : X1.heap.size < (X1.alloc (.cells #[.int .u64 (num vj)] 22)).heap.size := by simp
                obtain ⟨X2, hX2⟩ : ∃ Z : World, X1.alloc (.cells #[.int .u64 (num vj)] 22) = Z := ⟨_, rfl⟩
                rw [hX2] at ny c19 f19 ho ht hzy
                rw [hX2]
                clear hX2 hq1
                try simp only [Act.put, List.setIfInBounds_toArray, List.set_cons_zero, List.set_cons_succ]
                rw [wpSchedB]
                simp only [pick, List.map_nil, Array.getD_eq_getD_getElem?, List.getElem?_toArray, List.getElem?_cons_succ, List.getElem?_cons_zero, Option.getD_some]
                refine wpQuiet_nil ?_
                refine heavyB_want (by rfl) (fun K' hK' => ?_)
                refine wp_appWX _ _ rfl (B := b4 + 1) (l := lk) (cap := cj) (xa := xj) ho rfl (ad := ⟨X1.heap.size, 0, none⟩) (u := vj) rfl ny (by omega) (by omega) (fun x' c' X3 h1 h2 h3 _ => hK' _ _ (h2.mono (by omega)) ?_)
                clear hK' K'
                rw [HLK.out] at h1 ⊢
                replace c19 := later_lt h2 (a := ⟨b4, 19, none⟩) (by simp <;> omega) c19
                replace f19 := (h2.frozen (p := ⟨b4, 19, none⟩) (by simp <;> omega)).trans f19
                have ht3 : Below (b4 + 1) wr X3 := (ht.mono (by omega)).trans h2
                clear ho h2 h3 ny ht
                try simp only [Act.put, List.setIfInBounds_toArray, List.set_cons_zero, List.set_cons_succ]
                rw [wpSchedB]
                simp only [pick, List.map_cons, List.map_nil, Array.getD_eq_getD_getElem?, List.getElem?_toArray, List.getElem?_cons_succ, List.getElem?_cons_zero, Option.getD_some]
                repeat (first | go_big_quiet_step (fail) | quiet_step (fail))
                refine wpQuiet_nil ?_
                refine heavyB_want (by rfl) (fun K' hK' => ?_)
                go_simp
                refine hK' _ _ ((Below.refl _ _).setCell (p := ⟨b4, 19, none⟩) (Nat.le_refl _) _) ?_
                clear hK' K'
                try simp only [Act.put, List.setIfInBounds_toArray, List.set_cons_zero, List.set_cons_succ]
                rw [wpSchedB]
                simp only [List.map_nil]
                refine wpQuiet_nil ?_
                have ga := gB.low ht3 (by omega)
                have hz3 : b4 < X3.heap.size := by have := ht3.size; omega
                have hB3 : Below b4 Z X3 := hBZ.trans (ht3.mono (by omega))
                clear c19 f19 ht3
                go_wp2_with fail
                exact ⟨⟨j + 1, x', c', by omega, by go_num, by rw [HQ2.out], by rw [HLN0.out]; exact h1.turn ((Turns.refl (fun b => b = b4) X3).setCell (p := ⟨b4, 19, none⟩) (fun _ => rfl) _) (fun b hb e => by have h0 := (h1.low b hb).1; have e' : b = b4 := e; omega), by rw [HLN0.out]; exact sig_path ga _ _ _, hB3.setCell (p := ⟨b4, 19, none⟩) (Nat.le_refl _) _, by simp <;> omega⟩, by simp [intOf]; omega⟩
              · refine heavyB_want (by rfl) (fun K' hK' => ?_)
                go_simp
                refine hK' _ _ ((Below.refl _ _).alloc (by omega) _) ?_
                clear hK' K'
                have hq1 := al (Below.refl _ X1) (.cells #[.int .u64 (num vj)] 22)
                have ny : (X1.alloc (.cells #[.int .u64 (num vj)] 22)).cell? ⟨X1.heap.size, 0, none⟩ = some (.int .u64 (num vj)) := by go_simp
                replace c19 := later hq1 c19
                replace f19 := (Below.frozen hq1 (by simp <;> omega)).trans f19
                replace ho := ho.later hq1
                replace ht := thru ht hq1
                have hzy : X1.heap.size < (X1.alloc (.cells #[.int .u64 (num vj)] 22)).heap.size := by simp
                obtain ⟨X2, hX2⟩ : ∃ Z : World, X1.alloc (.cells #[.int .u64 (num vj)] 22) = Z := ⟨_, rfl⟩
                rw [hX2] at ny c19 f19 ho ht hzy
                rw [hX2]
                clear hX2 hq1
                try simp only [Act.put, List.setIfInBounds_toArray, List.set_cons_zero, List.set_cons_succ]
                rw [wpSchedB]
                simp only [pick, List.map_nil, Array.getD_eq_getD_getElem?, List.getElem?_toArray, List.getElem?_cons_succ, List.getElem?_cons_zero, Option.getD_some]
                refine wpQuiet_nil ?_
                refine heavyB_want (by rfl) (fun K' hK' => ?_)
                go_simp
                refine hK' _ _ (Below.refl _ _) ?_
                clear hK' K'
                try simp only [Act.put, List.setIfInBounds_toArray, List.set_cons_zero, List.set_cons_succ]
                rw [wpSchedB]
                simp only [pick, List.map_nil, Array.getD_eq_getD_getElem?, List.getElem?_toArray, List.getElem?_cons_succ, List.getElem?_cons_zero, Option.getD_some]
                refine wpQuiet_nil ?_
                refine heavyB_want (by rfl) (fun K' hK' => ?_)
                refine wp_appWX _ _ rfl (B := b4 + 1) (l := lk) (cap := cj) (xa := xj) ho rfl (ad := ⟨X1.heap.size, 0, none⟩) (u := vj) rfl ny (by omega) (by omega) (fun x' c' X3 h1 h2 h3 _ => hK' _ _ (h2.mono (by omega)) ?_)
                clear hK' K'
                rw [HLK.out] at h1 ⊢
                replace c19 := later_lt h2 (a := ⟨b4, 19, none⟩) (by simp <;> omega) c19
                replace f19 := (h2.frozen (p := ⟨b4, 19, none⟩) (by simp <;> omega)).trans f19
                have ht3 : Below (b4 + 1) wr X3 := (ht.mono (by omega)).trans h2
                clear ho h2 h3 ny ht
                try simp only [Act.put, List.setIfInBounds_toArray, List.set_cons_zero, List.set_cons_succ]
                rw [wpSchedB]
                simp only [pick, List.map_cons, List.map_nil, Array.getD_eq_getD_getElem?, List.getElem?_toArray, List.getElem?_cons_succ, List.getElem?_cons_zero, Option.getD_some]
                repeat (first | go_big_quiet_step (fail) | quiet_step (fail))
                refine wpQuiet_nil ?_
                refine heavyB_want (by rfl) (fun K' hK' => ?_)
                go_simp
                refine hK' _ _ ((Below.refl _ _).setCell (p := ⟨b4, 19, none⟩) (Nat.le_refl _) _) ?_
                clear hK' K'
                try simp only [Act.put, List.setIfInBounds_toArray, List.set_cons_zero, List.set_cons_succ]
                rw [wpSchedB]
                simp only [List.map_nil]
                refine wpQuiet_nil ?_
                have ga := gB.low ht3 (by omega)
                have hz3 : b4 < X3.heap.size := by have := ht3.size; omega
                have hB3 : Below b4 Z X3 := hBZ.trans (ht3.mono (by omega))
                clear c19 f19 ht3
                go_wp2_with fail
                exact ⟨⟨j + 1, x', c', by omega, by go_num, by rw [HQ2.out], by rw [HLN0.out]; exact h1.turn ((Turns.refl (fun b => b = b4) X3).setCell (p := ⟨b4, 19, none⟩) (fun _ => rfl) _) (fun b hb e => by have h0 := (h1.low b hb).1; have e' : b = b4 := e; omega), by rw [HLN0.out]; exact sig_path ga _ _ _, hB3.setCell (p := ⟨b4, 19, none⟩) (Nat.le_refl _) _, by simp <;> omega⟩, by simp [intOf]; omega⟩
          · have hsE : sq + 1 = qk := by rw [← hsq]; unfold Sgn.sib; rw [if_neg he]; omega
            have hm0 : (qk : Int).tmod 2 = 1 := by rw [Int.tmod_eq_emod_of_nonneg (by omega)]; omega
            have hm1 : (qk : Int) % 2 = 1 := by omega
            have hsI : (qk : Int) - 1 = (sq : Int) := by omega
            have hsw : wrap64 ((qk : Int) - 1) = (sq : Int) := by rw [hsI]; exact IntWalk.wrap64_in _ (by omega)
            clear he hsE hsq
            go_wp2_with fail
            refine wp_region_schedB (B := b4) (fun X => X.cell? ⟨b4, 19, none⟩ = some (.slice xj lk.length cj) ∧ X.frozen? ⟨b4, 19, none⟩ = false ∧ OwnsW (b4 + 1) X xj cj lk ∧ Below wr.heap.size wr X ∧ b4 + 1 ≤ X.heap.size) (.two [0, 2, 3, 4, 5] 1 (.one [] 6 (.one [] 7 (.one [] 8 (.one [9] 10 (.done []))))) 6 (.two [] 1 (.one [] 7 (.one [] 8 (.one [9] 10 (.done [])))) 7 (.one [] 1 (.one [] 8 (.one [9] 10 (.done [])))))) (by kernel_rfl) (by kernel_rfl) (fun _ _ _ _ _ h => h) ⟨c19, f19, ho.turn ((Turns.refl (fun _ => False) wr).drew) (fun _ _ e => e), (Below.refl _ _).drew, by simp <;> omega⟩ ?_
            clear c19 f19 ho
            rintro X ⟨c19, f19, ho, ht, hzX⟩
            rw [wpSchedB]
            simp only [pick, List.map_cons, List.map_nil, Array.getD_eq_getD_getElem?, List.getElem?_toArray, List.getElem?_cons_succ, List.getElem?_cons_zero, Option.getD_some]
            repeat (first | go_big_quiet_step (fail) | quiet_step (fail))
            refine wpQuiet_nil ?_
            refine ⟨?_, ?_⟩
            · refine heavyB_want (by rfl) (fun K' hK' => ?_)
              go_simp
              refine hK' _ _ (Below.refl _ _) ?_
              clear hK' K'
              try simp only [Act.put, List.setIfInBounds_toArray, List.set_cons_zero, List.set_cons_succ]
              rw [wpSchedB]
              simp only [pick, List.map_nil, Array.getD_eq_getD_getElem?, List.getElem?_toArray, List.getElem?_cons_succ, List.getElem?_cons_zero, Option.getD_some]
              refine wpQuiet_nil ?_
              refine heavyB_want (by rfl) (fun K' hK' => ?_)
              go_simp
              refine (refNode_any seed j sq _ (by omega) HNB.out).mono ?_
              rintro e X1 ⟨rfl, hb⟩
              refine hK' _ _ (hb.mono (by omega)) ?_
              clear hK' K'
              rw [HND.out]
              replace c19 := later hb c19
              replace f19 := (Below.frozen hb (by simp <;> omega)).trans f19
              replace ho := ho.later hb
              replace ht := thru ht hb
              have hz1 := hb.size
              replace hzX : b4 + 1 ≤ X1.heap.size := by omega
              clear hb hz1 
              try simp only [Act.put, List.setIfInBounds_toArray, List.set_cons_zero, List.set_cons_succ]
              rw [wpSchedB]
              simp only [pick, List.map_nil, Array.getD_eq_getD_getElem?, List.getElem?_toArray, List.getElem?_cons_succ, List.getElem?_cons_zero, Option.getD_some]
              refine wpQuiet_nil ?_
              refine heavyB_want (by rfl) (fun K' hK' => ?_)
              go_simp
              refine hK' _ _ ((Below.refl _ _).alloc (by omega) _) ?_
              clear hK' K'
              have hq1 := al (Below.refl _ X1) (.cells #[.int .u64 (num vj)] 22)
              have ny : (X1.alloc (.cells #[.int .u64 (num vj)] 22)).cell? ⟨X1.heap.size, 0, none⟩ = some (.int .u64 (num vj)) := by go_simp
              replace c19 := later hq1 c19
              replace f19 := (Below.frozen hq1 (by simp <;> omega)).trans f19
              replace ho := ho.later hq1
              replace ht := thru ht hq1
              have hzy : X1.heap.size < (X1.alloc (.cells #[.int .u64 (num vj)] 22)).heap.size := by simp
              obtain ⟨X2, hX2⟩ : ∃ Z : World, X1.alloc (.cells #[.int .u64 (num vj)] 22) = Z := ⟨_, rfl⟩
              rw [hX2] at ny c19 f19 ho ht hzy
              rw [hX2]
              clear hX2 hq1
              try simp only [Act.put, List.setIfInBounds_toArray, List.set_cons_zero, List.set_cons_succ]
              rw [wpSchedB]
              simp only [pick, List.map_nil, Array.getD_eq_getD_getElem?, List.getElem?_toArray, List.getElem?_cons_succ, List.getElem?_cons_zero, Option.getD_some]
              refine wpQuiet_nil ?_
              refine heavyB_want (by rfl) (fun K' hK' => ?_)
              refine wp_appWX _ _ rfl (B := b4 + 1) (l := lk) (cap := cj) (xa := xj) ho rfl (ad := ⟨X1.heap.size, 0, none⟩) (u := vj) rfl ny (by omega) (by omega) (fun x' c' X3 h1 h2 h3 _ => hK' _ _ (h2.mono (by omega)) ?_)
              clear hK' K'
              rw [HLK.out] at h1 ⊢
              replace c19 := later_lt h2 (a := ⟨b4, 19, none⟩) (by simp <;> omega) c19
              replace f19 := (h2.frozen (p := ⟨b4, 19, none⟩) (by simp <;> omega)).trans f19
              have ht3 : Below (b4 + 1) wr X3 := (ht.mono (by omega)).trans h2
              clear ho h2 h3 ny ht
              try simp only [Act.put, List.setIfInBounds_toArray, List.set_cons_zero, List.set_cons_succ]
              rw [wpSchedB]
              simp only [pick, List.map_cons, List.map_nil, Array.getD_eq_getD_getElem?, List.getElem?_toArray, List.getElem?_cons_succ, List.getElem?_cons_zero, Option.getD_some]
              repeat (first | go_big_quiet_step (fail) | quiet_step (fail))
              refine wpQuiet_nil ?_
              refine heavyB_want (by rfl) (fun K' hK' => ?_)
              go_simp
              refine hK' _ _ ((Below.refl _ _).setCell (p := ⟨b4, 19, none⟩) (Nat.le_refl _) _) ?_
              clear hK' K'
              try simp only [Act.put, List.setIfInBounds_toArray, List.set_cons_zero, List.set_cons_succ]
              rw [wpSchedB]
              simp only [List.map_nil]
              refine wpQuiet_nil ?_
              have ga := gB.low ht3 (by omega)
              have hz3 : b4 < X3.heap.size := by have := ht3.size; omega
              have hB3 : Below b4 Z X3 := hBZ.trans (ht3.mono (by omega))
              clear c19 f19 ht3
              go_wp2_with fail
              exact ⟨⟨j + 1, x', c', by omega, by go_num, by rw [HQ2.out], by rw [HLN0.out]; exact h1.turn ((Turns.refl (fun b => b = b4) X3).setCell (p := ⟨b4, 19, none⟩) (fun _ => rfl) _) (fun b hb e => by have h0 := (h1.low b hb).1; have e' : b = b4 := e; omega), by rw [HLN0.out]; exact sig_path ga _ _ _, hB3.setCell (p := ⟨b4, 19, none⟩) (Nat.le_refl _) _, by simp <;> omega⟩, by simp [intOf]; omega⟩
            · refine heavyB_want (by rfl) (fun K' hK' => ?_)
              go_simp
              refine (refNode_any seed j sq _ (by omega) HNB.out).mono ?_
              rintro e X1 ⟨rfl, hb⟩
              refine hK' _ _ (hb.mono (by omega)) ?_
              clear hK' K'
              rw [HND.out]
              replace c19 := later hb c19
              replace f19 := (Below.frozen hb (by simp <;> omega)).trans f19
              replace ho := ho.later hb
              replace ht := thru ht hb
              have hz1 := hb.size
              replace hzX : b4 + 1 ≤ X1.heap.size := by omega
              clear hb hz1 
              try simp only [Act.put, List.setIfInBounds_toArray, List.set_cons_zero, List.set_cons_succ]
              rw [wpSchedB]
              simp only [pick, List.map_nil, Array.getD_eq_getD_getElem?, List.getElem?_toArray, List.getElem?_cons_succ, List.getElem?_cons_zero, Option.getD_some]
              refine wpQuiet_nil ?_
              refine ⟨?_, ?_⟩
              · refine heavyB_want (by rfl) (fun K' hK' => ?_)
                go_simp
                refine hK' _ _ (Below.refl _ _) ?_
                clear hK' K'
                try simp only [Act.put, List.setIfInBounds_toArray, List.set_cons_zero, List.set_cons_succ]
                rw [wpSchedB]
                simp only [pick, List.map_nil, Array.getD_eq_getD_getElem?, List.getElem?_toArray, List.getElem?_cons_succ, List.getElem?_cons_zero, Option.getD_some]
                refine wpQuiet_nil ?_
                refine heavyB_want (by rfl) (fun K' hK' => ?_)
                go_simp
                refine hK' _ _ ((Below.refl _ _).alloc (by omega) _) ?_
                clear hK' K'
                have hq1 := al (Below.refl _ X1) (.cells #[.int .u64 (num vj)] 22)
                have ny : (X1.alloc (.cells #[.int .u64 (num vj)] 22)).cell? ⟨X1.heap.size, 0, none⟩ = some (.int .u64 (num vj)) := by go_simp
                replace c19 := later hq1 c19
                replace f19 := (Below.frozen hq1 (by simp <;> omega)).trans f19
                replace ho := ho.later hq1
                replace ht := thru ht hq1
                have hzy : X1.heap.size < (X1.alloc (.cells #[.int .u64 (num vj)] 22)).heap.size := by simp
                obtain ⟨X2, hX2⟩ : ∃ Z : World, X1.alloc (.cells #[.int .u64 (num vj)] 22) = Z := ⟨_, rfl⟩
                rw [hX2] at ny c19 f19 ho ht hzy
                rw [hX2]
                clear hX2 hq1
                try simp only [Act.put, List.setIfInBounds_toArray, List.set_cons_zero, List.set_cons_succ]
                rw [wpSchedB]
                simp only [pick, List.map_nil, Array.getD_eq_getD_getElem?, List.getElem?_toArray, List.getElem?_cons_succ, List.getElem?_cons_zero, Option.getD_some]
                refine wpQuiet_nil ?_
                refine heavyB_want (by rfl) (fun K' hK' => ?_)
                refine wp_appWX _ _ rfl (B := b4 + 1) (l := lk) (cap := cj) (xa := xj) ho rfl (ad := ⟨X1.heap.size, 0, none⟩) (u := vj) rfl ny (by omega) (by omega) (fun x' c' X3 h1 h2 h3 _ => hK' _ _ (h2.mono (by omega)) ?_)
                clear hK' K'
                rw [HLK.out] at h1 ⊢
                replace c19 := later_lt h2 (a := ⟨b4, 19, none⟩) (by simp <;> omega) c19
                replace f19 := (h2.frozen (p := ⟨b4, 19, none⟩) (by simp <;> omega)).trans f19
                have ht3 : Below (b4 + 1) wr X3 := (ht.mono (by omega)).trans h2
                clear ho h2 h3 ny ht
                try simp only [Act.put, List.setIfInBounds_toArray, List.set_cons_zero, List.set_cons_succ]
                rw [wpSchedB]
                simp only [pick, List.map_cons, List.map_nil, Array.getD_eq_getD_getElem?, List.getElem?_toArray, List.getElem?_cons_succ, List.getElem?_cons_zero, Option.getD_some]
                repeat (first | go_big_quiet_step (fail) | quiet_step (fail))
                refine wpQuiet_nil ?_
                refine heavyB_want (by rfl) (fun K' hK' => ?_)
                go_simp
                refine hK' _ _ ((Below.refl _ _).setCell (p := ⟨b4, 19, none⟩) (Nat.le_refl _) _) ?_
                clear hK' K'
                try simp only [Act.put, List.setIfInBounds_toArray, List.set_cons_zero, List.set_cons_succ]
                rw [wpSchedB]
                simp only [List.map_nil]
                refine wpQuiet_nil ?_
                have ga := gB.low ht3 (by omega)
                have hz3 : b4 < X3.heap.size := by have := ht3.size; omega
                have hB3 : Below b4 Z X3 := hBZ.trans (ht3.mono (by omega))
                clear c19 f19 ht3
                go_wp2_with fail
                exact ⟨⟨j + 1, x', c', by omega, by go_num, by rw [HQ2.out], by rw [HLN0.out]; exact h1.turn ((Turns.refl (fun b => b = b4) X3).setCell (p := ⟨b4, 19, none⟩) (fun _ => rfl) _) (fun b hb e => by have h0 := (h1.low b hb).1; have e' : b = b4 := e; omega), by rw [HLN0.out]; exact sig_path ga _ _ _, hB3.setCell (p := ⟨b4, 19, none⟩) (Nat.le_refl _) _, by simp <;> omega⟩, by simp [intOf]; omega⟩
              · refine heavyB_want (by rfl) (fun K' hK' => ?_)
                go_simp
                refine hK' _ _ ((Below.refl _ _).alloc (by omega) _) ?_
                clear hK' K'
                have hq1 := al (Below.refl _ X1) (.cells #[.int .u64 (num vj)] 22)
                have ny : (X1.alloc (.cells #[.int .u64 (num vj)] 22)).cell? ⟨X1.heap.size, 0, none⟩ = some (.int .u64 (num vj)) := by go_simp
                replace c19 := later hq1 c19
                replace f19 := (Below.frozen hq1 (by simp <;> omega)).trans f19
                replace ho := ho.later hq1
                replace ht := thru ht hq1
                have hzy : X1.heap.size < (X1.alloc (.cells #[.int .u64 (num vj)] 22)).heap.size := by simp
                obtain ⟨X2, hX2⟩ : ∃ Z : World, X1.alloc (.cells #[.int .u64 (num vj)] 22) = Z := ⟨_, rfl⟩
                rw [hX2] at ny c19 f19 ho ht hzy
                rw [hX2]
                clear hX2 hq1
                try simp only [Act.put, List.setIfInBounds_toArray, List.set_cons_zero, List.set_cons_succ]
                rw [wpSchedB]
                simp only [pick, List.map_nil, Array.getD_eq_getD_getElem?, List.getElem?_toArray, List.getElem?_cons_succ, List.getElem?_cons_zero, Option.getD_some]
                refine wpQuiet_nil ?_
                refine heavyB_want (by rfl) (fun K' hK' => ?_)
                go_simp
                refine hK' _ _ (Below.refl _ _) ?_
                clear hK' K'
                try simp only [Act.put, List.setIfInBounds_toArray, List.set_cons_zero, List.set_cons_succ]
                rw [wpSchedB]
                simp only [pick, List.map_nil, Array.getD_eq_getD_getElem?, List.getElem?_toArray, List.getElem?_cons_succ, List.getElem?_cons_zero, Option.getD_some]
                refine wpQuiet_nil ?_
                refine heavyB_want (by rfl) (fun K' hK' => ?_)
                refine wp_appWX _ _ rfl (B := b4 + 1) (l := lk) (cap := cj) (xa := xj) ho rfl (ad := ⟨X1.heap.size, 0, none⟩) (u := vj) rfl ny (by omega) (by omega) (fun x' c' X3 h1 h2 h3 _ => hK' _ _ (h2.mono (by omega)) ?_)
                clear hK' K'
                rw [HLK.out] at h1 ⊢
                replace c19 := later_lt h2 (a := ⟨b4, 19, none⟩) (by simp <;> omega) c19
                replace f19 := (h2.frozen (p := ⟨b4, 19, none⟩) (by simp <;> omega)).trans f19
                have ht3 : Below (b4 + 1) wr X3 := (ht.mono (by omega)).trans h2
                clear ho h2 h3 ny ht
                try simp only [Act.put, List.setIfInBounds_toArray, List.set_cons_zero, List.set_cons_succ]
                rw [wpSchedB]
                simp only [pick, List.map_cons, List.map_nil, Array.getD_eq_getD_getElem?, List.getElem?_toArray, List.getElem?_cons_succ, List.getElem?_cons_zero, Option.getD_some]
                repeat (first | go_big_quiet_step (fail) | quiet_step (fail))
                refine wpQuiet_nil ?_
                refine heavyB_want (by rfl) (fun K' hK' => ?_)
                go_simp
                refine hK' _ _ ((Below.refl _ _).setCell (p := ⟨b4, 19, none⟩) (Nat.le_refl _) _) ?_
                clear hK' K'
                try simp only [Act.put, List.setIfInBounds_toArray, List.set_cons_zero, List.set_cons_succ]
                rw [wpSchedB]
                simp only [List.map_nil]
                refine wpQuiet_nil ?_
                have ga := gB.low ht3 (by omega)
                have hz3 : b4 < X3.heap.size := by have := ht3.size; omega
                have hB3 : Below b4 Z X3 := hBZ.trans (ht3.mono (by omega))
                clear c19 f19 ht3
                go_wp2_with fail
                exact ⟨⟨j + 1, x', c', by omega, by go_num, by rw [HQ2.out], by rw [HLN0.out]; exact h1.turn ((Turns.refl (fun b => b = b4) X3).setCell (p := ⟨b4, 19, none⟩) (fun _ => rfl) _) (fun b hb e => by have h0 := (h1.low b hb).1; have e' : b = b4 := e; omega), by rw [HLN0.out]; exact sig_path ga _ _ _, hB3.setCell (p := ⟨b4, 19, none⟩) (Nat.le_refl _) _, by simp <;> omega⟩, by simp [intOf]; omega⟩
        · obtain rfl : j = h := by omega
          have hpl : (Sgn.path seed j q).take j = Sgn.path seed j q := List.take_of_length_le (by rw [Sgn.path_length]; omega)
          rw [hpl] at ho gB
          rw [Sgn.path_length] at gB
          have hl1 := run_loadS gB
          have a1 := a8.low hBZ s84
          have hB2 := hBw.trans (hBZ.mono (by omega))
          clear hpl
          go_wp2_with (first | (refine wpList_loadN rfl _ (.tmp 9) rfl (b := b4) (q := 0) rfl hl1 ?_) | (refine wpList_storeB rfl rfl _ (.tmp 8) _ rfl (b := b8) (q := 0) rfl (n := 20) (v := sigV (q : Int) f xj j cj) rfl a1 (fun j _ => sig_one _ _ _ _ _ j) sig_size ?_; intro Y9 t1; refine Hid.out ?_))
          unfold Hid
          have hB3 := t1.below w.heap.size w (by omega) hB2
          have l9 := run_loadS t1.blk
          have tt := t1.turns (fun b => b = b8) wr (fun _ => rfl) (Turns.refl _ _)
          have ho9 := ho.turn tt (fun b hb e => by have h0 := (ho.low b hb).1; have e' : b = b8 := e; omega)
          clear t1 tt hl1 a1 gB ho a8
          go_wp2_with fail
          exact bodyPost_ret (v := aggN 20 (sigV (q : Int) f xj j cj)) (results_cellA rfl rfl l9) rfl ⟨xj, cj, by rw [HF.out], ho9.weaken (by omega), hB3⟩

end Go.Proofs.Ytjpicnfkmfjnoaa
