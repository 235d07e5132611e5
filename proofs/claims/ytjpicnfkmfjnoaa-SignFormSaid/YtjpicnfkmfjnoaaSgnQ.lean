/- WALKS of the sign layer: Decode, where it answers. -/
import Derived.Test.YtjpicnfkmfjnoaaSgnP
namespace Go.Proofs.Ytjpicnfkmfjnoaa
open Go.RowKit

theorem Bts.low {A B : World} {x : Option Addr} {l : List UInt8} {C : Nat} (h : Bts A x l) (hb : Below C A B) (hx : ∀ a, x = some a → a.block < C) : Bts B x l := by
  rcases h with h | ⟨b, o, rfl, hc⟩
  · exact .inl h
  · exact .inr ⟨b, o, rfl, fun i hi => (hb.cell (p := ⟨b, o + i, none⟩) (show b < C from hx ⟨b, o, none⟩ rfl)).trans (hc i hi)⟩
def sig0 (key : Int) : Nat → Value := sigV key (fun _ => 0#64) none 0 0
def DeRel (key : Int) (f : Nat → D64) (l : List UInt8) (h b4 : Nat) (Z : World) (u48 : Value) (wr : World) : Prop :=
  ∃ j x c, j ≤ h ∧ u48 = .int .i64 (j : Int) ∧ OwnsW (b4 + 1) wr x c (Sgn.wds l j) ∧ Blk wr b4 0 20 (sigV key f x (Sgn.wds l j).length c) ∧ Below b4 Z wr ∧ b4 < wr.heap.size
set_option maxHeartbeats 4000000 in
theorem decode_ok (x : Option Addr) (l : List UInt8) (c : Nat) (w : World) (hx : Bts w x l) (hv : vldS ((l.getD 1 0).toNat : Int) ((l.getD 0 0).toNat : Int) = true) (hl : l.length = 146 + 8 * (l.getD 1 0).toNat) :
    Calls Try.prog 30 #[.slice x l.length c] w fun e w' => ∃ y cy, e = .returned (.tuple #[aggN 20 (sigV ((l.getD 0 0).toNat : Int) (fun i => Sgn.wd l (2 + 8 * i) 8) y (l.getD 1 0).toNat cy), .int .i64 0]) ∧ OwnsW w.heap.size w' y cy (Sgn.wds l (l.getD 1 0).toNat) ∧ Below w.heap.size w w' := by
  have h2 : ¬ l.length < 2 := by omega
  have hd2 : decide (l.length < 2) = false := decide_eq_false h2
  have hv2 := valid_any ((l.getD 1 0).toNat : Int) ((l.getD 0 0).toNat : Int)
  rw [hv] at hv2
  have h6 : (l.getD 1 0).toNat ≤ 6 := by
    unfold vldS at hv
    have := of_decide_eq_true hv
    omega
  obtain ⟨l0, e0⟩ : ∃ b, l.getD 0 0 = b := ⟨_, rfl⟩
  obtain ⟨l1, e1⟩ : ∃ b, l.getD 1 0 = b := ⟨_, rfl⟩
  rw [e0] at hv2 ⊢
  rw [e1] at hv2 hl h6 ⊢
  have HE0 := Lib.hid e0
  have HE1 := Lib.hid e1
  have hl0 : l0.toNat < 256 := l0.toNat_lt
  obtain ⟨m, hm⟩ : ∃ m, l1.toNat = m := ⟨_, rfl⟩
  have HM := Lib.hid hm
  rw [hm] at hl h6 hv2 ⊢
  have HLEN := Lib.hid hl
  clear hv hm e0 e1 hl
  go_enter Try.func30, Try.ntmps30
  go_wp2_with (refine wpList_allocTo 2 rfl rfl _ rfl sig_zero ?_; intro X a_b hb0 hz0; refine Hid.out ?_)
  unfold Hid
  try simp only [Act.put, List.setIfInBounds_toArray, List.set_cons_zero, List.set_cons_succ]
  rw [World.size_alloc] at a_b hz0 ⊢
  obtain ⟨a, ea⟩ : ∃ a, w.heap.size = a := ⟨_, rfl⟩
  have s_a : w.heap.size ≤ a := by omega
  have d0 : X.cell? ⟨a, 0, none⟩ = some (.slice x l.length c) := by subst ea; exact later hb0 (by go_simp)
  have hB : Below w.heap.size w X := thru (al (Below.refl _ w) _) hb0
  have hx1 : Bts X x l := (hx.later (al (Below.refl _ w) _)).later hb0
  rw [ea] at a_b hz0 ⊢
  clear hb0 ea hx
  obtain ⟨g, o, rfl, hc⟩ := hx1.at (by omega)
  have k0 := hc 0 (by omega)
  have k1 := hc 1 (by omega)
  rw [Nat.add_zero, HE0.out] at k0
  rw [HE1.out, HM.out] at k1
  have hxg : ∀ y, (some ⟨g, o, none⟩ : Option Addr) = some y → y.block < X.heap.size := fun y hy => by cases hy; exact World.block_lt_of_cell? _ _ k0
  obtain ⟨n, hnn⟩ : ∃ n, l.length = n := ⟨_, rfl⟩
  have HNN := Lib.hid hnn
  rw [hnn] at d0 h2 hd2 ⊢
  have hl : n = 146 + 8 * m := by rw [← hnn]; exact HLEN.out
  have hd : decide ((n : Int) < 2) = false := by simp; omega
  have hnI : ((n : Int) != 2 + 8 * (18 + (m : Int))) = false := by
    rw [bne_eq_false_iff_eq]
    omega
  have HV := hv2
  have HY := Lib.hid hx1
  have HXG := Lib.hid hxg
  have HLN0 := Lib.hid hl
  clear hv2 hc hx1 hnn hxg hl
  go_wp2_with fail
  refine wp_region_sched (fun W => W.cell? ⟨a, 0, none⟩ = some (.slice (some ⟨g, o, none⟩) n c) ∧ W.cell? ⟨g, o, none⟩ = some (.int .u8 (l0.toNat : Int)) ∧ W.cell? ⟨g, o + 1, none⟩ = some (.int .u8 (m : Int)) ∧ Below X.heap.size X W) (.one [0, 1, 2, 3, 4, 5, 6, 7, 8, 9, 10, 11] 12 (.done [13, 14, 15, 16, 17, 18, 19, 20, 21, 22, 23, 24, 25, 26])) (by kernel_rfl) (by kernel_rfl) (fun _ _ _ _ _ h => h) ⟨(by go_simp), (by go_simp), (by go_simp), (Below.refl _ X).drew⟩ ?_
  clear d0 k0 k1
  rintro V ⟨d0, k0, k1, hXW⟩
  rw [wpSched]
  simp only [pick, List.map_cons, List.map_nil, Array.getD_eq_getD_getElem?, List.getElem?_toArray, List.getElem?_cons_succ, List.getElem?_cons_zero, Option.getD_some]
  have kd0 := plusW_cell d0
  have kk0 := plusW_cell k0
  have kk1 := plusW_cell k1
  repeat (first | go_big_quiet_step (fail) | quiet_step (fail))
  refine wpQuiet_nil ?_
  refine heavy_want (by rfl) (fun K' hK' => ?_)
  go_simp
  refine (HV _).mono ?_
  rintro e V1 ⟨rfl, hw⟩
  obtain rfl : V = V1 := hw.symm
  refine hK' _ _ (Below.refl _ _) ?_
  clear hK' K' HV hw
  try simp only [Act.put, List.setIfInBounds_toArray, List.set_cons_zero, List.set_cons_succ]
  rw [wpSched]
  simp only [pick, List.map_cons, List.map_nil, Array.getD_eq_getD_getElem?, List.getElem?_toArray, List.getElem?_cons_succ, List.getElem?_cons_zero, Option.getD_some]
  repeat (first | go_big_quiet_step (fail) | quiet_step (fail))
  refine wpQuiet_nil ?_
  clear kd0 kk0 kk1
  replace hB := thru hB hXW
  replace a_b := a_b.later hXW
  have yV := HY.out.later hXW
  have hXV : X.heap.size ≤ V.heap.size := hXW.size
  have hgV : g < V.heap.size := Nat.lt_of_lt_of_le (HXG.out _ rfl) hXV
  have haV : a + 1 < V.heap.size := by omega
  clear hXW HY HXG hz0 hXV hd hd2
  go_wp2_with (refine wpList_allocTo 4 rfl rfl _ rfl sig_zero ?_; intro X4 a4 hb hz4; refine Hid.out ?_)
  unfold Hid
  try simp only [Act.put, List.setIfInBounds_toArray, List.set_cons_zero, List.set_cons_succ]
  obtain ⟨b4, hb4⟩ : ∃ a, V.heap.size = a := ⟨_, rfl⟩
  have HB4 := Lib.hid hb4
  rw [hb4] at a4 hz4 hgV haV ⊢
  clear hb4
  go_wp2_with (refine wpList_storeB rfl rfl _ (.tmp 4) _ rfl (b := b4) (q := 0) rfl (n := 20) (v := sig0 (l0.toNat : Int)) rfl a4 (fun j _ => sig_one _ _ _ _ _ j) sig_size ?_; intro Y4 t1; refine Hid.out ?_)
  unfold Hid
  replace hb := t1.below V.heap.size V (by have := HB4.out; omega) hb
  have g4 : Blk Y4 b4 0 20 (sigV (l0.toNat : Int) (fun _ => 0#64) none 0 0) := t1.blk
  clear t1 a4 hz4
  have hmf : ∀ (fn : Fn) (first cap : Array Value) (w : World), (Instr.makeFunc fn first cap).run Try.prog w = .ok (.func fn first cap) w := fun _ _ _ _ => rfl
  have dY := later hb d0
  have yY := yV.later hb
  go_wp2_with fail
  refine (values_any 49 #[.pointer (some ⟨a, 0, none⟩)] (fun i => Sgn.wd l (2 + 8 * i) 8) _ (enters_of Try.func49 (by kernel_rfl) rfl) (fun i W hi hb => word_any i a l (some ⟨g, o, none⟩) c W (yY.later hb) (by rw [HNN.out]; exact later hb dY) (by rw [HLEN.out]; omega) (by omega))).mono ?_
  rintro e W5 ⟨rfl, hb5⟩
  obtain ⟨F, hF⟩ : ∃ F, (fun i => Sgn.wd l (2 + 8 * i) 8) = F := ⟨_, rfl⟩
  have HF := Lib.hid hF
  rw [hF]
  replace g4 := g4.later hb5
  replace hb := thru hb hb5
  clear hF hb5 dY yY
  go_wp2_with (refine wpList_storeB rfl rfl _ (.tmp 43) _ rfl (b := b4) (q := 1) rfl (n := 18) (v := wrdV F) (aggN_arr _).symm g4.chain (fun _ _ => rfl) arrW_size ?_; intro Z t1; refine Hid.out ?_)
  unfold Hid
  replace g4 := sig_chain g4 t1
  replace hb := t1.below V.heap.size V (by have := HB4.out; omega) hb
  have hzZ : b4 < Z.heap.size := World.block_lt_of_cell? _ _ (g4.at 0 (by omega)).1
  clear t1
  replace hB := thru hB hb
  replace a_b := a_b.later hb
  have dZ := later hb d0
  have kZ := later hb k1
  have yZ := yV.later hb
  clear hb d0 k0 k1 yV hmf
  go_wp2_with fail
  clear kZ
  go_loopw [48] (fun u48 wr => DeRel (l0.toNat : Int) F l m b4 Z u48 wr) (fun u48 _ => m - (intOf u48).toNat)
  case atStart => exact ⟨0, none, 0, by omega, rfl, OwnsW.nil _ _, g4, Below.refl _ _, hzZ⟩
  case round =>
    clear g4
    obtain ⟨j, xj, cj, hj, rfl, ho, gB, hBZ, hzw⟩ := hrel
    have hjl := Sgn.wds_length l j
    by_cases hlt : j < m
    · have hjm : decide (j < m) = true := decide_eq_true hlt
      have hLK := Sgn.wds_succ l j
      have hLN := Sgn.wds_length l (j + 1)
      obtain ⟨jj, hjj⟩ : ∃ k, 18 + j = k := ⟨_, rfl⟩
      have hjI : 18 + (j : Int) = (jj : Int) := by omega
      have hvj : Sgn.wd l (2 + 8 * jj) 8 = Sgn.wd l (146 + 8 * j) 8 := by rw [show 2 + 8 * jj = 146 + 8 * j by omega]
      have hjj24 : jj ≤ 24 := by omega
      have hl146 : 10 + 8 * jj ≤ l.length := by rw [HLEN.out]; omega
      obtain ⟨vj, hvj2⟩ : ∃ v, Sgn.wd l (146 + 8 * j) 8 = v := ⟨_, rfl⟩
      rw [hvj2] at hLK hvj
      obtain ⟨lk, hlk⟩ : ∃ k, Sgn.wds l j = k := ⟨_, rfl⟩
      rw [hlk] at hLK hjl ho gB
      have hlk6 : lk.length ≤ 6 := by omega
      have HVJ := Lib.hid hvj
      have HLK := Lib.hid hLK.symm
      have HLN := Lib.hid hLN
      have c19 : wr.cell? ⟨b4, 19, none⟩ = some (.slice xj lk.length cj) := (gB.at 19 (by omega)).1
      have f19 := (gB.at 19 (by omega)).2
      have d0X : wr.cell? ⟨a, 0, none⟩ = some (.slice (some ⟨g, o, none⟩) l.length c) := by rw [HNN.out]; exact (hBZ.cell (p := ⟨a, 0, none⟩) (by simp <;> omega)).trans dZ
      have yX : Bts wr (some ⟨g, o, none⟩) l := yZ.low hBZ (fun y hy => by cases hy; exact hgV)
      have HJ1 := Lib.hid hl146
      clear hjj hl146 hjl hLK hLN hvj hvj2 hlk dZ yZ
      go_wp2_with fail
      refine wp_region_schedB (B := b4) (fun X => X.cell? ⟨b4, 19, none⟩ = some (.slice xj lk.length cj) ∧ X.frozen? ⟨b4, 19, none⟩ = false ∧ OwnsW (b4 + 1) X xj cj lk ∧ Below wr.heap.size wr X ∧ b4 + 1 ≤ X.heap.size ∧ X.cell? ⟨a, 0, none⟩ = some (.slice (some ⟨g, o, none⟩) l.length c) ∧ Bts X (some ⟨g, o, none⟩) l) (.two [0, 2, 3, 4] 1 (.one [] 5 (.one [] 6 (.one [] 7 (.one [8] 9 (.done []))))) 5 (.two [] 1 (.one [] 6 (.one [] 7 (.one [8] 9 (.done [])))) 6 (.one [] 1 (.one [] 7 (.one [8] 9 (.done [])))))) (by kernel_rfl) (by kernel_rfl) (fun _ _ _ _ _ h => h) ⟨c19, f19, ho.turn ((Turns.refl (fun _ => False) wr).drew) (fun _ _ e => e), (Below.refl _ _).drew, by simp <;> omega, d0X, yX⟩ ?_
      clear c19 f19 ho d0X yX
      rintro X ⟨c19, f19, ho, ht, hzX, d0X, yX⟩
      rw [wpSchedB]
      simp only [pick, List.map_cons, List.map_nil, Array.getD_eq_getD_getElem?, List.getElem?_toArray, List.getElem?_cons_succ, List.getElem?_cons_zero, Option.getD_some]
      repeat (first | go_big_quiet_step (fail) | quiet_step (fail))
      refine wpQuiet_nil ?_
      refine ⟨?_, ?_⟩
      · refine heavyB_want (by rfl) (fun K' hK' => ?_)
        go_simp
        refine hK' _ _ (Below.refl _ _) ?_
        clear hK' K'
        try simp only [Act.put, List.setIfInBounds_toArray, List.set_cons_zero, List.set_cons_succ]
        rw [wpSchedB]
        simp only [pick, List.map_nil, Array.getD_eq_getD_getElem?, List.getElem?_toArray, List.getElem?_cons_succ, List.getElem?_cons_zero, Option.getD_some]
        refine wpQuiet_nil ?_
        refine heavyB_want (by rfl) (fun K' hK' => ?_)
        go_simp
        refine (word_any jj a l (some ⟨g, o, none⟩) c _ yX d0X HJ1.out hjj24).mono ?_
        rintro e X1 ⟨rfl, hb⟩
        refine hK' _ _ (hb.mono (by omega)) ?_
        clear hK' K'
        rw [HVJ.out]
        replace c19 := later hb c19
        replace f19 := (Below.frozen hb (by simp <;> omega)).trans f19
        replace ho := ho.later hb
        replace ht := thru ht hb
        have hz1 := hb.size
        replace hzX : b4 + 1 ≤ X1.heap.size := by omega
        clear hb hz1 yX d0X
        try simp only [Act.put, List.setIfInBounds_toArray, List.set_cons_zero, List.set_cons_succ]
        rw [wpSchedB]
        simp only [pick, List.map_nil, Array.getD_eq_getD_getElem?, List.getElem?_toArray, List.getElem?_cons_succ, List.getElem?_cons_zero, Option.getD_some]
        refine wpQuiet_nil ?_
        refine heavyB_want (by rfl) (fun K' hK' => ?_)
        go_simp
        refine hK' _ _ ((Below.refl _ _).alloc (by omega) _) ?_
        clear hK' K'
        have hq1 := al (Below.refl _ X1) (.cells #[.int .u64 (num vj)] 22)
        have ny : (X1.alloc (.cells #[.int .u64 (num vj)] 22)).cell? ⟨X1.heap.size, 0, none⟩ = some (.int .u64 (num vj)) := by go_simp
        replace c19 := later hq1 c19
        replace f19 := (Below.frozen hq1 (by simp <;> omega)).trans f19
        replace ho := ho.later hq1
        replace ht := thru ht hq1
        have hzy : X1.heap.size < (X1.alloc (.cells #[.int .u64 (num vj)] 22)).heap.size := by simp
        obtain ⟨X2, hX2⟩ : ∃ Z : World, X1.alloc (.cells #[.int .u64 (num vj)] 22) = Z := ⟨_, rfl⟩
        rw [hX2] at ny c19 f19 ho ht hzy
        rw [hX2]
        clear hX2 hq1
        try simp only [Act.put, List.setIfInBounds_toArray, List.set_cons_zero, List.set_cons_succ]
        rw [wpSchedB]
        simp only [pick, List.map_nil, Array.getD_eq_getD_getElem?, List.getElem?_toArray, List.getElem?_cons_succ, List.getElem?_cons_zero, Option.getD_some]
        refine wpQuiet_nil ?_
        refine heavyB_want (by rfl) (fun K' hK' => ?_)
        refine wp_appWX _ _ rfl (B := b4 + 1) (l := lk) (cap := cj) (xa := xj) ho rfl (ad := ⟨X1.heap.size, 0, none⟩) (u := vj) rfl ny (by omega) (by omega) (fun x' c' X3 h1 h2 h3 _ => hK' _ _ (h2.mono (by omega)) ?_)
        clear hK' K'
        rw [HLK.out] at h1 ⊢
        replace c19 := later_lt h2 (a := ⟨b4, 19, none⟩) (by simp <;> omega) c19
        replace f19 := (h2.frozen (p := ⟨b4, 19, none⟩) (by simp <;> omega)).trans f19
        have ht3 : Below (b4 + 1) wr X3 := (ht.mono (by omega)).trans h2
        clear ho h2 h3 ny ht
        try simp only [Act.put, List.setIfInBounds_toArray, List.set_cons_zero, List.set_cons_succ]
        rw [wpSchedB]
        simp only [pick, List.map_cons, List.map_nil, Array.getD_eq_getD_getElem?, List.getElem?_toArray, List.getElem?_cons_succ, List.getElem?_cons_zero, Option.getD_some]
        repeat (first | go_big_quiet_step (fail) | quiet_step (fail))
        refine wpQuiet_nil ?_
        refine heavyB_want (by rfl) (fun K' hK' => ?_)
        go_simp
        refine hK' _ _ ((Below.refl _ _).setCell (p := ⟨b4, 19, none⟩) (Nat.le_refl _) _) ?_
        clear hK' K'
        try simp only [Act.put, List.setIfInBounds_toArray, List.set_cons_zero, List.set_cons_succ]
        rw [wpSchedB]
        simp only [List.map_nil]
        refine wpQuiet_nil ?_
        have ga := gB.low ht3 (by omega)
        have hz3 : b4 < X3.heap.size := by have := ht3.size; omega
        have hB3 : Below b4 Z X3 := hBZ.trans (ht3.mono (by omega))
        clear c19 f19 ht3
        go_wp2_with fail
        exact ⟨⟨j + 1, x', c', by omega, by go_num, h1.turn ((Turns.refl (fun b => b = b4) X3).setCell (p := ⟨b4, 19, none⟩) (fun _ => rfl) _) (fun b hb e => by have h0 := (h1.low b hb).1; have e' : b = b4 := e; omega), by rw [← HLN.out]; exact sig_path ga _ _ _, hB3.setCell (p := ⟨b4, 19, none⟩) (Nat.le_refl _) _, by simp <;> omega⟩, by simp [intOf]; omega⟩
      · refine heavyB_want (by rfl) (fun K' hK' => ?_)
        go_simp
        refine (word_any jj a l (some ⟨g, o, none⟩) c _ yX d0X HJ1.out hjj24).mono ?_
        rintro e X1 ⟨rfl, hb⟩
        refine hK' _ _ (hb.mono (by omega)) ?_
        clear hK' K'
        rw [HVJ.out]
        replace c19 := later hb c19
        replace f19 := (Below.frozen hb (by simp <;> omega)).trans f19
        replace ho := ho.later hb
        replace ht := thru ht hb
        have hz1 := hb.size
        replace hzX : b4 + 1 ≤ X1.heap.size := by omega
        clear hb hz1 yX d0X
        try simp only [Act.put, List.setIfInBounds_toArray, List.set_cons_zero, List.set_cons_succ]
        rw [wpSchedB]
        simp only [pick, List.map_nil, Array.getD_eq_getD_getElem?, List.getElem?_toArray, List.getElem?_cons_succ, List.getElem?_cons_zero, Option.getD_some]
        refine wpQuiet_nil ?_
        refine ⟨?_, ?_⟩
        · refine heavyB_want (by rfl) (fun K' hK' => ?_)
          go_simp
          refine hK' _ _ (Below.refl _ _) ?_
          clear hK' K'
          try simp only [Act.put, List.setIfInBounds_toArray, List.set_cons_zero, List.set_cons_succ]
          rw [wpSchedB]
          simp only [pick, List.map_nil, Array.getD_eq_getD_getElem?, List.getElem?_toArray, List.getElem?_cons_succ, List.getElem?_cons_zero, Option.getD_some]
          refine wpQuiet_nil ?_
          refine heavyB_want (by rfl) (fun K' hK' => ?_)
          go_simp
          refine hK' _ _ ((Below.refl _ _).alloc (by omega) _) ?_
          clear hK' K'
          have hq1 := al (Below.refl _ X1) (.cells #[.int .u64 (num vj)] 22)
          have ny : (X1.alloc (.cells #[.int .u64 (num vj)] 22)).cell? ⟨X1.heap.size, 0, none⟩ = some (.int .u64 (num vj)) := by go_simp
          replace c19 := later hq1 c19
          replace f19 := (Below.frozen hq1 (by simp <;> omega)).trans f19
          replace ho := ho.later hq1
          replace ht := thru ht hq1
          have hzy : X1.heap.size < (X1.alloc (.cells #[.int .u64 (num vj)] 22)).heap.size := by simp
          obtain ⟨X2, hX2⟩ : ∃ Z : World, X1.alloc (.cells #[.int .u64 (num vj)] 22) = Z := ⟨_, rfl⟩
          rw [hX2] at ny c19 f19 ho ht hzy
          rw [hX2]
          clear hX2 hq1
          try simp only [Act.put, List.setIfInBounds_toArray, List.set_cons_zero, List.set_cons_succ]
          rw [wpSchedB]
          simp only [pick, List.map_nil, Array.getD_eq_getD_getElem?, List.getElem?_toArray, List.getElem?_cons_succ, List.getElem?_cons_zero, Option.getD_some]
          refine wpQuiet_nil ?_
          refine heavyB_want (by rfl) (fun K' hK' => ?_)
          refine wp_appWX _ _ rfl (B := b4 + 1) (l := lk) (cap := cj) (xa := xj) ho rfl (ad := ⟨X1.heap.size, 0, none⟩) (u := vj) rfl ny (by omega) (by omega) (fun x' c' X3 h1 h2 h3 _ => hK' _ _ (h2.mono (by omega)) ?_)
          clear hK' K'
          rw [HLK.out] at h1 ⊢
          replace c19 := later_lt h2 (a := ⟨b4, 19, none⟩) (by simp <;> omega) c19
          replace f19 := (h2.frozen (p := ⟨b4, 19, none⟩) (by simp <;> omega)).trans f19
          have ht3 : Below (b4 + 1) wr X3 := (ht.mono (by omega)).trans h2
          clear ho h2 h3 ny ht
          try simp only [Act.put, List.setIfInBounds_toArray, List.set_cons_zero, List.set_cons_succ]
          rw [wpSchedB]
          simp only [pick, List.map_cons, List.map_nil, Array.getD_eq_getD_getElem?, List.getElem?_toArray, List.getElem?_cons_succ, List.getElem?_cons_zero, Option.getD_some]
          repeat (first | go_big_quiet_step (fail) | quiet_step (fail))
          refine wpQuiet_nil ?_
          refine heavyB_want (by rfl) (fun K' hK' => ?_)
          go_simp
          refine hK' _ _ ((Below.refl _ _).setCell (p := ⟨b4, 19, none⟩) (Nat.le_refl _) _) ?_
          clear hK' K'
          try simp only [Act.put, List.setIfInBounds_toArray, List.set_cons_zero, List.set_cons_succ]
          rw [wpSchedB]
          simp only [List.map_nil]
          refine wpQuiet_nil ?_
          have ga := gB.low ht3 (by omega)
          have hz3 : b4 < X3.heap.size := by have := ht3.size; omega
          have hB3 : Below b4 Z X3 := hBZ.trans (ht3.mono (by omega))
          clear c19 f19 ht3
          go_wp2_with fail
          exact ⟨⟨j + 1, x', c', by omega, by go_num, h1.turn ((Turns.refl (fun b => b = b4) X3).setCell (p := ⟨b4, 19, none⟩) (fun _ => rfl) _) (fun b hb e => by have h0 := (h1.low b hb).1; have e' : b = b4 := e; omega), by rw [← HLN.out]; exact sig_path ga _ _ _, hB3.setCell (p := ⟨b4, 19, none⟩) (Nat.le_refl _) _, by simp <;> omega⟩, by simp [intOf]; omega⟩
        · refine heavyB_want (by rfl) (fun K' hK' => ?_)
          go_simp
          refine hK' _ _ ((Below.refl _ _).alloc (by omega) _) ?_
          clear hK' K'
          have hq1 := al (Below.refl _ X1) (.cells #[.int .u64 (num vj)] 22)
          have ny : (X1.alloc (.cells #[.int .u64 (num vj)] 22)).cell? ⟨X1.heap.size, 0, none⟩ = some (.int .u64 (num vj)) := by go_simp
          replace c19 := later hq1 c19
          replace f19 := (Below.frozen hq1 (by simp <;> omega)).trans f19
          replace ho := ho.later hq1
          replace ht := thru ht hq1
          have hzy : X1.heap.size < (X1.alloc (.cells #[.int .u64 (num vj)] 22)).heap.size := by simp
          obtain ⟨X2, hX2⟩ : ∃ Z : World, X1.alloc (.cells #[.int .u64 (num vj)] 22) = Z := ⟨_, rfl⟩
          rw [hX2] at ny c19 f19 ho ht hzy
          rw [hX2]
          clear hX2 hq1
          try simp only [Act.put, List.setIfInBounds_toArray, List.set_cons_zero, List.set_cons_succ]
          rw [wpSchedB]
          simp only [pick, List.map_nil, Array.getD_eq_getD_getElem?, List.getElem?_toArray, List.getElem?_cons_succ, List.getElem?_cons_zero, Option.getD_some]
          refine wpQuiet_nil ?_
          refine heavyB_want (by rfl) (fun K' hK' => ?_)
          go_simp
          refine hK' _ _ (Below.refl _ _) ?_
          clear hK' K'
          try simp only [Act.put, List.setIfInBounds_toArray, List.set_cons_zero, List.set_cons_succ]
          rw [wpSchedB]
          simp only [pick, List.map_nil, Array.getD_eq_getD_getElem?, List.getElem?_toArray, List.getElem?_cons_succ, List.getElem?_cons_zero, Option.getD_some]
          refine wpQuiet_nil ?_
          refine heavyB_want (by rfl) (fun K' hK' => ?_)
          refine wp_appWX _ _ rfl (B := b4 + 1) (l := lk) (cap := cj) (xa := xj) ho rfl (ad := ⟨X1.heap.size, 0, none⟩) (u := vj) rfl ny (by omega) (by omega) (fun x' c' X3 h1 h2 h3 _ => hK' _ _ (h2.mono (by omega)) ?_)
          clear hK' K'
          rw [HLK.out] at h1 ⊢
          replace c19 := later_lt h2 (a := ⟨b4, 19, none⟩) (by simp <;> omega) c19
          replace f19 := (h2.frozen (p := ⟨b4, 19, none⟩) (by simp <;> omega)).trans f19
          have ht3 : Below (b4 + 1) wr X3 := (ht.mono (by omega)).trans h2
          clear ho h2 h3 ny ht
          try simp only [Act.put, List.setIfInBounds_toArray, List.set_cons_zero, List.set_cons_succ]
          rw [wpSchedB]
          simp only [pick, List.map_cons, List.map_nil, Array.getD_eq_getD_getElem?, List.getElem?_toArray, List.getElem?_cons_succ, List.getElem?_cons_zero, Option.getD_some]
          repeat (first | go_big_quiet_step (fail) | quiet_step (fail))
          refine wpQuiet_nil ?_
          refine heavyB_want (by rfl) (fun K' hK' => ?_)
          go_simp
          refine hK' _ _ ((Below.refl _ _).setCell (p := ⟨b4, 19, none⟩) (Nat.le_refl _) _) ?_
          clear hK' K'
          try simp only [Act.put, List.setIfInBounds_toArray, List.set_cons_zero, List.set_cons_succ]
          rw [wpSchedB]
          simp only [List.map_nil]
          refine wpQuiet_nil ?_
          have ga := gB.low ht3 (by omega)
          have hz3 : b4 < X3.heap.size := by have := ht3.size; omega
          have hB3 : Below b4 Z X3 := hBZ.trans (ht3.mono (by omega))
          clear c19 f19 ht3
          go_wp2_with fail
          exact ⟨⟨j + 1, x', c', by omega, by go_num, h1.turn ((Turns.refl (fun b => b = b4) X3).setCell (p := ⟨b4, 19, none⟩) (fun _ => rfl) _) (fun b hb e => by have h0 := (h1.low b hb).1; have e' : b = b4 := e; omega), by rw [← HLN.out]; exact sig_path ga _ _ _, hB3.setCell (p := ⟨b4, 19, none⟩) (Nat.le_refl _) _, by simp <;> omega⟩, by simp [intOf]; omega⟩
    · obtain rfl : j = m := by omega
      rw [hjl] at gB
      have hl1 := run_loadS gB
      have a1 : Blk wr (a + 1) 0 20 zeroS := a_b.low hBZ (by omega)
      have hB2 := hB.trans (hBZ.mono (by omega))
      rw [show ((j : Nat) : Int) = (j : Int) from rfl]
      clear dZ yZ
      go_wp2_with (first | (refine wpList_loadN rfl _ (.tmp 4) rfl (b := b4) (q := 0) rfl hl1 ?_) | (refine wpList_storeB rfl rfl _ (.tmp 2) _ rfl (b := a + 1) (q := 0) rfl (n := 20) (v := sigV (l0.toNat : Int) F xj j cj) rfl a1 (fun j _ => sig_one _ _ _ _ _ j) sig_size ?_; intro Y9 t1; refine Hid.out ?_))
      unfold Hid
      have hB3 := t1.below w.heap.size w (by omega) hB2
      have l9 := run_loadS t1.blk
      have tt := t1.turns (fun b => b = a + 1) wr (fun _ => rfl) (Turns.refl _ _)
      have ho9 := ho.turn tt (fun b hb e => by have h0 := (ho.low b hb).1; have e' : b = a + 1 := e; omega)
      clear t1 tt hl1 a1 gB ho a_b
      go_wp2_with fail
      refine bodyPost_ret (v := .tuple #[aggN 20 (sigV (l0.toNat : Int) F xj j cj), .int .i64 0]) ?_ rfl ⟨xj, cj, by rw [HF.out], ho9.weaken (by omega), hB3⟩
      rw [results_cell_tmp rfl]
      simp [asAddr, Result.andThen]
      rw [l9]

end Go.Proofs.Ytjpicnfkmfjnoaa
