/- The reference of the block layer: Read, Steps, Fits. -/
import Derived.Test.YtgibfagnfhgelaaRefBa
import Derived.Test.YtgibfagnfhgelaaBlkM
import Derived.Test.YtgibfagnfhgelaaPureRd
namespace Go.Proofs.Ytgibfagnfhgelaa
open Go.RowKit

set_option maxHeartbeats 4000000 in
theorem refRead_any (x : Option Addr) (rs : List Rw) (c : Nat) (i : Int) (w : World) (hs : Rws w x rs) (hn : rs.length ≤ 1000) : Calls Try.prog 14 #[.slice x rs.length c, .int .i64 i] w (ReadOf (rs.map (·.l)) i w) := by
  have hB := Below.refl w.heap.size w
  by_cases hv : vldS (rs.map (·.l)) = false
  · have HV : Hid (vldS (rs.map (·.l)) = false) := hv
    have HC : Hid (rdC (rs.map (·.l)) i = 2) := by show _ = _; unfold rdC; rw [if_neg (by rw [hv]; simp)]
    have HM : Hid (rdM (rs.map (·.l)) i = []) := by show _ = _; unfold rdM; rw [HC.out]; rfl
    clear hv
    go_enter Try.func14, Try.ntmps14
    go_wp2_with fail
    refine (refValid_any x rs c _ hs hn).mono ?_
    rintro e w1 ⟨rfl, hw1⟩
    obtain rfl : w = w1 := hw1.symm
    clear hw1
    rw [HV.out]
    go_wp2_with fail
    refine bodyPost_ret (v := .tuple #[.slice none 0 0, .int .i64 2]) (by simp [results, Try.results14, go_sem]) rfl ⟨none, 0, by rw [HM.out, HC.out]; rfl, by rw [HM.out]; exact OwnsB.nil _ _, hB⟩
  · have hv1 : vldS (rs.map (·.l)) = true := by simpa using hv
    have HV : Hid (vldS (rs.map (·.l)) = true) := hv1
    by_cases h1 : i < 0
    · have HC : Hid (rdC (rs.map (·.l)) i = 2) := by show _ = _; unfold rdC; rw [if_neg (by omega)]
      have HM : Hid (rdM (rs.map (·.l)) i = []) := by show _ = _; unfold rdM; rw [HC.out]; rfl
      have a1 : decide (i < 0) = true := decide_eq_true h1
      go_enter Try.func14, Try.ntmps14
      go_wp2_with fail
      refine (refValid_any x rs c _ hs hn).mono ?_
      rintro e w1 ⟨rfl, hw1⟩
      obtain rfl : w = w1 := hw1.symm
      clear hw1
      rw [HV.out]
      go_wp2_with fail
      refine bodyPost_ret (v := .tuple #[.slice none 0 0, .int .i64 2]) (by simp [results, Try.results14, go_sem]) rfl ⟨none, 0, by rw [HM.out, HC.out]; rfl, by rw [HM.out]; exact OwnsB.nil _ _, hB⟩
    · by_cases h2 : (rs.length : Int) ≤ i
      · have HC : Hid (rdC (rs.map (·.l)) i = 2) := by show _ = _; unfold rdC; rw [if_neg (by rw [List.length_map]; omega)]
        have HM : Hid (rdM (rs.map (·.l)) i = []) := by show _ = _; unfold rdM; rw [HC.out]; rfl
        have a1 : decide (i < 0) = false := decide_eq_false h1
        have a2 : decide ((rs.length : Int) ≤ i) = true := decide_eq_true h2
        go_enter Try.func14, Try.ntmps14
        go_wp2_with fail
        refine (refValid_any x rs c _ hs hn).mono ?_
        rintro e w1 ⟨rfl, hw1⟩
        obtain rfl : w = w1 := hw1.symm
        clear hw1
        rw [HV.out]
        go_wp2_with fail
        refine bodyPost_ret (v := .tuple #[.slice none 0 0, .int .i64 2]) (by simp [results, Try.results14, go_sem]) rfl ⟨none, 0, by rw [HM.out, HC.out]; rfl, by rw [HM.out]; exact OwnsB.nil _ _, hB⟩
      · obtain ⟨j, rfl⟩ : ∃ j : Nat, i = (j : Int) := ⟨i.toNat, by omega⟩
        have hj : j < rs.length := by omega
        have a1 : decide ((j : Int) < 0) = false := decide_eq_false h1
        have a2 : decide ((rs.length : Int) ≤ (j : Int)) = false := decide_eq_false h2
        have a2n : decide (rs.length ≤ j) = false := decide_eq_false (by omega)
        have jB : (j : Int) < (rs.length : Int) := by omega
        obtain ⟨-, h54⟩ := (vldS_iff _).1 hv1
        obtain ⟨b0, o0, rfl, hcj, hrj⟩ := hs.at j hj
        obtain ⟨⟨xr, cr, l⟩, hr⟩ : ∃ r, rs.getD j rw0 = r := ⟨_, rfl⟩
        have hgl : (rs.map (·.l)).getD j [] = l := by rw [getD_map_l, hr]
        have hl : l.length = 54 := by rw [← hgl]; exact h54.getD j (by rw [List.length_map]; exact hj)
        have HIN : Hid (rdC (rs.map (·.l)) (j : Int) = readE l) := by
          show _ = _
          unfold rdC
          rw [if_pos ⟨hv1, by omega, by rw [List.length_map]; omega⟩, Int.toNat_natCast, hgl]
        have HGL := Lib.hid hgl
        rw [hr] at hcj hrj
        obtain ⟨hbt, hxn, hcr1, hcr2⟩ := hrj
        dsimp only at hbt hxn hcr1 hcr2
        obtain ⟨g, o, rfl, hcc⟩ : ∃ g o, xr = some ⟨g, o, none⟩ ∧ ∀ i, i < l.length → w.cell? ⟨g, o + i, none⟩ = some (encB (l.getD i 0)) := by
          rcases hbt with h | ⟨g, o, h1, h2⟩
          · subst h; cases hl
          · exact ⟨g, o, h1, h2⟩
        replace hcj : w.cell? ⟨b0, o0 + j, none⟩ = some (.slice (some ⟨g, o, none⟩) 54 cr) := by rw [hcj]; unfold encR; rw [hl]
        have c0 : w.cell? ⟨g, o, none⟩ = some (.int .u8 ((l.getD 0 0).toNat : Int)) := by have := hcc 0 (by omega); rwa [Nat.add_zero] at this
        have c53 : w.cell? ⟨g, o + 53, none⟩ = some (.int .u8 ((l.getD 53 0).toNat : Int)) := hcc 53 (by omega)
        have hEQ : ∀ y cy m W, Bts W (some ⟨g, o, none⟩) l → Bts W y m → m.length = 54 → Calls Try.prog 31 #[.slice (some ⟨g, o, none⟩) 54 cr, .slice y 54 cy] W fun e w' => e = .returned (.bool (l == m)) ∧ Below W.heap.size W w' := fun y cy m W h1 h2 h3 => by
          have := refEqual_any _ _ l m cr cy W h1 h2 (by omega)
          rwa [hl, h3] at this
        rw [hl] at hcr1
        have HL := Lib.hid hl
        clear hr hgl hcc hxn h54 hv hv1 hl
        obtain ⟨z, hz⟩ : ∃ z, l.getD 53 0 = z := ⟨_, rfl⟩
        obtain ⟨n, hnn⟩ : ∃ n, (l.getD 0 0).toNat = n := ⟨_, rfl⟩
        rw [hz] at c53
        rw [hnn] at c0
        have HZ := Lib.hid hz
        have HN := Lib.hid hnn
        have hn256 : n < 256 := by rw [← hnn]; exact UInt8.toNat_lt _
        clear hz hnn
        by_cases he : l = erasedL
        · have HQ : Hid ((l == erasedL) = true) := by show _ = _; rw [beq_iff_eq]; exact he
          have HC : Hid (rdC (rs.map (·.l)) (j : Int) = 6) := by show _ = _; rw [HIN.out]; unfold readE; rw [if_pos he]
          have HM : Hid (rdM (rs.map (·.l)) (j : Int) = []) := by show _ = _; unfold rdM; rw [HC.out]; rfl
          clear he
          go_enter Try.func14, Try.ntmps14
          go_wp2_with fail
          refine (refValid_any (some ⟨b0, o0, none⟩) rs c _ hs hn).mono ?_
          rintro e w1 ⟨rfl, hw1⟩
          obtain rfl : w = w1 := hw1.symm
          clear hw1
          rw [HV.out]
          go_wp2_with fail
          refine (refErased_any _).mono ?_
          rintro e w2 ⟨xe, ce, rfl, hoe, hb⟩
          have hB2 := hb
          have hl2 := hbt.later hb
          have cz := later hb c0
          have cm := later hb c53
          have hbe := hoe.bts
          clear hb hoe
          go_wp2_with fail
          refine (hEQ xe ce erasedL w2 hl2 hbe erasedL_len).mono ?_
          rintro e w3 ⟨rfl, hb⟩
          have hB3 := thru hB2 hb
          have hl3 := hl2.later hb
          replace cz := later hb cz
          replace cm := later hb cm
          rw [HQ.out]
          clear hb hl2 hB2 hbe
          go_wp2_with fail
          refine bodyPost_ret (v := .tuple #[.slice none 0 0, .int .i64 6]) (by simp [results, Try.results14, go_sem]) rfl ⟨none, 0, by rw [HM.out, HC.out]; rfl, by rw [HM.out]; exact OwnsB.nil _ _, hB3⟩
        · have HQ : Hid ((l == erasedL) = false) := by show _ = _; rw [beq_eq_false_iff_ne]; exact he
          by_cases hm : z = 0
          · have z1 : ((z.toNat : Int) != 0) = false := by rw [hm]; rfl
            by_cases h48 : 48 < n
            · have d1 : decide (48 < n) = true := decide_eq_true h48
              have d2 : decide ((48 : Int) < (n : Int)) = true := decide_eq_true (by omega)
              have HC : Hid (rdC (rs.map (·.l)) (j : Int) = 371) := by show _ = _; rw [HIN.out]; unfold readE; rw [if_neg he, HZ.out, hm, if_neg (by simp), HN.out, if_pos h48]
              have HM : Hid (rdM (rs.map (·.l)) (j : Int) = []) := by show _ = _; unfold rdM; rw [HC.out]; rfl
              clear he hm h48
              go_enter Try.func14, Try.ntmps14
              go_wp2_with fail
              refine (refValid_any (some ⟨b0, o0, none⟩) rs c _ hs hn).mono ?_
              rintro e w1 ⟨rfl, hw1⟩
              obtain rfl : w = w1 := hw1.symm
              clear hw1
              rw [HV.out]
              go_wp2_with fail
              refine (refErased_any _).mono ?_
              rintro e w2 ⟨xe, ce, rfl, hoe, hb⟩
              have hB2 := hb
              have hl2 := hbt.later hb
              have cz := later hb c0
              have cm := later hb c53
              have hbe := hoe.bts
              clear hb hoe
              go_wp2_with fail
              refine (hEQ xe ce erasedL w2 hl2 hbe erasedL_len).mono ?_
              rintro e w3 ⟨rfl, hb⟩
              have hB3 := thru hB2 hb
              have hl3 := hl2.later hb
              replace cz := later hb cz
              replace cm := later hb cm
              rw [HQ.out]
              clear hb hl2 hB2 hbe
              go_wp2_with fail
              refine bodyPost_ret (v := .tuple #[.slice none 0 0, .int .i64 371]) (by simp [results, Try.results14, go_sem]) rfl ⟨none, 0, by rw [HM.out, HC.out]; rfl, by rw [HM.out]; exact OwnsB.nil _ _, hB3⟩
            · have d1 : decide (48 < n) = false := decide_eq_false h48
              have d2 : decide ((48 : Int) < (n : Int)) = false := decide_eq_false (by omega)
              have p1 : (1 : Int) ≤ 1 + (n : Int) := by omega
              have p2 : (1 : Int) + (n : Int) ≤ (cr : Int) := by omega
              have hdl : (readD l).length = n := by rw [readD_len l HL.out (by rw [HN.out]; omega), HN.out]
              obtain ⟨d, hd⟩ : ∃ d, readD l = d := ⟨_, rfl⟩
              have hdt : d = (l.drop 1).take n := by rw [← hd, ← HN.out]; rfl
              have HDT := Lib.hid hdt
              rw [hd] at hdl
              have HD := Lib.hid hd
              clear hdt hd
              obtain rfl := hdl
              have hd48 : d.length ≤ 48 := by omega
              have hMID : ∀ W, Bts W (some ⟨g, o, none⟩) l → Bts W (some ⟨g, o + 1, none⟩) d := fun W h1 => by
                have := h1.mid 1 d.length
                rwa [← HDT.out] at this
              have HMID := Lib.hid hMID
              have hEN : ∀ W, Bts W (some ⟨g, o, none⟩) l → Calls Try.prog 20 #[.slice (some ⟨g, o + 1, none⟩) d.length (cr - 1)] W fun e w' => ∃ y cap, e = .returned (.slice y 54 cap) ∧ OwnsB W.heap.size w' y cap (encL d) ∧ Below W.heap.size W w' := fun W h1 => refEncode_yes (some ⟨g, o + 1, none⟩) d (cr - 1) W (HMID.out W h1) (fun h => by cases h) hd48
              have HE54 := Lib.hid (encL_len d hd48)
              have HD48 := Lib.hid hd48
              clear hMID hd48
              by_cases hq : l = encL d
              · have HQ2 : Hid ((l == encL d) = true) := by show _ = _; rw [beq_iff_eq]; exact hq
                have HC : Hid (rdC (rs.map (·.l)) (j : Int) = 0) := by show _ = _; rw [HIN.out]; unfold readE; rw [if_neg he, HZ.out, hm, if_neg (by simp), HN.out, if_neg h48, HD.out, if_pos hq]
                have HM : Hid (rdM (rs.map (·.l)) (j : Int) = d) := by show _ = _; unfold rdM; rw [HC.out, if_pos rfl, Int.toNat_natCast, HGL.out, HD.out]
                clear he hm h48 hq
                go_enter Try.func14, Try.ntmps14
                go_wp2_with fail
                refine (refValid_any (some ⟨b0, o0, none⟩) rs c _ hs hn).mono ?_
                rintro e w1 ⟨rfl, hw1⟩
                obtain rfl : w = w1 := hw1.symm
                clear hw1
                rw [HV.out]
                go_wp2_with fail
                refine (refErased_any _).mono ?_
                rintro e w2 ⟨xe, ce, rfl, hoe, hb⟩
                have hB2 := hb
                have hl2 := hbt.later hb
                have cz := later hb c0
                have cm := later hb c53
                have hbe := hoe.bts
                clear hb hoe
                go_wp2_with fail
                refine (hEQ xe ce erasedL w2 hl2 hbe erasedL_len).mono ?_
                rintro e w3 ⟨rfl, hb⟩
                have hB3 := thru hB2 hb
                have hl3 := hl2.later hb
                replace cz := later hb cz
                replace cm := later hb cm
                rw [HQ.out]
                clear hb hl2 hB2 hbe
                go_wp2_with fail
                refine (hEN w3 hl3).mono ?_
                rintro e w4 ⟨x4, c4, rfl, ho4, hb⟩
                have hB4 := thru hB3 hb
                have hl4 := hl3.later hb
                replace cz := later hb cz
                replace cm := later hb cm
                have hx4 := ho4.bts
                clear hb ho4 hB3 hl3
                go_wp2_with fail
                refine (hEQ x4 c4 (encL d) w4 hl4 hx4 HE54.out).mono ?_
                rintro e w5 ⟨rfl, hb⟩
                have hB5 := thru hB4 hb
                have hl5 := hl4.later hb
                replace cz := later hb cz
                replace cm := later hb cm
                have hz5 : g < w5.heap.size := World.block_lt_of_cell? _ _ cz
                rw [HQ2.out]
                clear hb hl4 hB4 hx4
                go_wp2_with (at_builtin; (refine wpList_app rfl _ _ rfl (l := []) (B := w.heap.size) (OwnsB.made' _ (w5.heap.size) _ hB5.size rfl) rfl (y := some ⟨g, o + 1, none⟩) (m := d) (c := cr - 1) (by show Value.slice _ (1 + d.length - 1) _ = _; rw [Nat.add_sub_cancel_left]) ((HMID.out _ hl5).later (al (Below.refl _ w5) _)) (fun h => by cases h) (by have := HD48.out; simp; omega) (List.nil_append d) (by have := hB5.size; simp; omega) ?_); intro x6 c6 w6 ho hb _; refine Hid.out ?_)
                unfold Hid
                have HO6 := Lib.hid ho
                have hB6 := (al hB5 _).trans hb
                clear ho hb hB5 hl5
                go_wp2_with fail
                refine bodyPost_ret (v := .tuple #[.slice x6 d.length c6, .int .i64 0]) (by simp [results, Try.results14, go_sem]) rfl ⟨x6, c6, by rw [HM.out, HC.out], by rw [HM.out]; exact HO6.out, hB6⟩
              · have HQ2 : Hid ((l == encL d) = false) := by show _ = _; rw [beq_eq_false_iff_ne]; exact hq
                have HC : Hid (rdC (rs.map (·.l)) (j : Int) = 371) := by show _ = _; rw [HIN.out]; unfold readE; rw [if_neg he, HZ.out, hm, if_neg (by simp), HN.out, if_neg h48, HD.out, if_neg hq]
                have HM : Hid (rdM (rs.map (·.l)) (j : Int) = []) := by show _ = _; unfold rdM; rw [HC.out]; rfl
                clear he hm h48 hq
                go_enter Try.func14, Try.ntmps14
                go_wp2_with fail
                refine (refValid_any (some ⟨b0, o0, none⟩) rs c _ hs hn).mono ?_
                rintro e w1 ⟨rfl, hw1⟩
                obtain rfl : w = w1 := hw1.symm
                clear hw1
                rw [HV.out]
                go_wp2_with fail
                refine (refErased_any _).mono ?_
                rintro e w2 ⟨xe, ce, rfl, hoe, hb⟩
                have hB2 := hb
                have hl2 := hbt.later hb
                have cz := later hb c0
                have cm := later hb c53
                have hbe := hoe.bts
                clear hb hoe
                go_wp2_with fail
                refine (hEQ xe ce erasedL w2 hl2 hbe erasedL_len).mono ?_
                rintro e w3 ⟨rfl, hb⟩
                have hB3 := thru hB2 hb
                have hl3 := hl2.later hb
                replace cz := later hb cz
                replace cm := later hb cm
                rw [HQ.out]
                clear hb hl2 hB2 hbe
                go_wp2_with fail
                refine (hEN w3 hl3).mono ?_
                rintro e w4 ⟨x4, c4, rfl, ho4, hb⟩
                have hB4 := thru hB3 hb
                have hl4 := hl3.later hb
                replace cz := later hb cz
                replace cm := later hb cm
                have hx4 := ho4.bts
                clear hb ho4 hB3 hl3
                go_wp2_with fail
                refine (hEQ x4 c4 (encL d) w4 hl4 hx4 HE54.out).mono ?_
                rintro e w5 ⟨rfl, hb⟩
                have hB5 := thru hB4 hb
                have hl5 := hl4.later hb
                replace cz := later hb cz
                replace cm := later hb cm
                have hz5 : g < w5.heap.size := World.block_lt_of_cell? _ _ cz
                rw [HQ2.out]
                clear hb hl4 hB4 hx4
                go_wp2_with fail
                refine bodyPost_ret (v := .tuple #[.slice none 0 0, .int .i64 371]) (by simp [results, Try.results14, go_sem]) rfl ⟨none, 0, by rw [HM.out, HC.out]; rfl, by rw [HM.out]; exact OwnsB.nil _ _, hB5⟩
          · have z1 : ((z.toNat : Int) != 0) = true := by
              rw [bne_iff_ne]
              intro h
              exact hm (by rw [← UInt8.toNat_inj]; show z.toNat = 0; omega)
            have HC : Hid (rdC (rs.map (·.l)) (j : Int) = 370) := by show _ = _; rw [HIN.out]; unfold readE; rw [if_neg he, HZ.out, if_pos hm]
            have HM : Hid (rdM (rs.map (·.l)) (j : Int) = []) := by show _ = _; unfold rdM; rw [HC.out]; rfl
            clear he hm
            go_enter Try.func14, Try.ntmps14
            go_wp2_with fail
            refine (refValid_any (some ⟨b0, o0, none⟩) rs c _ hs hn).mono ?_
            rintro e w1 ⟨rfl, hw1⟩
            obtain rfl : w = w1 := hw1.symm
            clear hw1
            rw [HV.out]
            go_wp2_with fail
            refine (refErased_any _).mono ?_
            rintro e w2 ⟨xe, ce, rfl, hoe, hb⟩
            have hB2 := hb
            have hl2 := hbt.later hb
            have cz := later hb c0
            have cm := later hb c53
            have hbe := hoe.bts
            clear hb hoe
            go_wp2_with fail
            refine (hEQ xe ce erasedL w2 hl2 hbe erasedL_len).mono ?_
            rintro e w3 ⟨rfl, hb⟩
            have hB3 := thru hB2 hb
            have hl3 := hl2.later hb
            replace cz := later hb cz
            replace cm := later hb cm
            rw [HQ.out]
            clear hb hl2 hB2 hbe
            go_wp2_with fail
            refine bodyPost_ret (v := .tuple #[.slice none 0 0, .int .i64 370]) (by simp [results, Try.results14, go_sem]) rfl ⟨none, 0, by rw [HM.out, HC.out]; rfl, by rw [HM.out]; exact OwnsB.nil _ _, hB3⟩

theorem refSteps_any (o : OpV) (w : World) : Calls Try.prog 23 #[.agg #[.int .i64 o.blk, .bool o.er, .slice o.x o.d.length o.c]] w fun e w' => e = .returned (.int .i64 (lenO o.er : Int)) ∧ Below w.heap.size w w' := by
  obtain ⟨b, er, x, c, d⟩ := o
  have hB := Below.refl w.heap.size w
  cases er
  all_goals (
    go_enter Try.func23, Try.ntmps23
    go_wp2_with fail
    go_ret
    exact ⟨rfl, al hB _⟩)

set_option maxHeartbeats 2000000 in
theorem refFits_any (x : Option Addr) (rs : List Rw) (c : Nat) (y : Option Addr) (os : List OpV) (cy : Nat) (w : World) (hs : Rws w x rs) (hn : rs.length ≤ 1000) (ho : Ops w y os) (hm : os.length ≤ 1000) : Calls Try.prog 21 #[.slice x rs.length c, .slice y os.length cy] w fun e w' => e = .returned (.bool (vldO (rs.map (·.l)) os)) ∧ w' = w := by
  have hl : (rs.map (·.l)).length = rs.length := List.length_map ..
  unfold vldO
  rw [hl]
  obtain ⟨q, hq⟩ : ∃ q, vldS (rs.map (·.l)) = q := ⟨_, rfl⟩
  have HQ := Lib.hid hq
  rw [hq]
  clear hq hl
  go_enter Try.func21, Try.ntmps21
  go_wp2_with fail
  go_loop [5] (fun u5 => ∃ j : Nat, j ≤ os.length ∧ u5 = .int .i64 (j : Int) ∧ ∀ i, i < j → badO rs.length (os.getD i op0) = false) (fun u5 => os.length - (intOf u5).toNat)
  case atStart => exact ⟨0, by omega, rfl, fun i hi => by omega⟩
  case round =>
    obtain ⟨j, hj, rfl, hgood⟩ := hrel
    by_cases hlt : j < os.length
    · have d1 : decide ((j : Int) < (os.length : Int)) = true := by simp; omega
      obtain ⟨b0, o0, rfl, k0, k1, k2, -⟩ := ho.at j hlt
      obtain ⟨oj, hoj⟩ : ∃ r, os.getD j op0 = r := ⟨_, rfl⟩
      have jB : (j : Int) < (os.length : Int) := by omega
      rw [hoj] at k0 k1 k2
      have HO := Lib.hid hoj
      have HG := Lib.hid hgood
      clear hoj hgood
      have BAD : badO rs.length oj = true → Hid (os.any (fun o => badO rs.length o) = true) := fun h => any_of_bad (fun o : OpV => badO rs.length o) os j op0 hlt (by rw [HO.out]; exact h)
      have GOOD : badO rs.length oj = false → Hid (∀ i, i < j + 1 → badO rs.length (os.getD i op0) = false) := fun h i hi => by
        by_cases e : i = j
        · subst e; rw [HO.out]; exact h
        · exact HG.out i (by omega)
      by_cases b1 : oj.blk < 0
      · have q1 : decide (oj.blk < 0) = true := decide_eq_true b1
        have HB := BAD (by unfold badO; rw [q1]; rfl)
        clear BAD GOOD
        go_wp2_with fail
        go_ret
        exact ⟨by rw [HB.out]; simp, rfl⟩
      · have q1 : decide (oj.blk < 0) = false := decide_eq_false b1
        by_cases b2 : (rs.length : Int) ≤ oj.blk
        · have q2 : decide ((rs.length : Int) ≤ oj.blk) = true := decide_eq_true b2
          have HB := BAD (by unfold badO; rw [q2]; simp)
          clear BAD GOOD
          go_wp2_with fail
          go_ret
          exact ⟨by rw [HB.out]; simp, rfl⟩
        · have q2 : decide ((rs.length : Int) ≤ oj.blk) = false := decide_eq_false b2
          by_cases b3 : 48 < oj.d.length
          · have q3 : decide ((48 : Int) < (oj.d.length : Int)) = true := decide_eq_true (by omega)
            have q4 : decide (48 < oj.d.length) = true := decide_eq_true b3
            have HB := BAD (by unfold badO; rw [q4]; simp)
            clear BAD GOOD
            go_wp2_with fail
            go_ret
            exact ⟨by rw [HB.out]; simp, rfl⟩
          · have q3 : decide ((48 : Int) < (oj.d.length : Int)) = false := decide_eq_false (by omega)
            have q4 : decide (48 < oj.d.length) = false := decide_eq_false b3
            obtain ⟨er, her⟩ : ∃ e, oj.er = e := ⟨_, rfl⟩
            rw [her] at k1
            cases er
            · have HG2 := GOOD (by unfold badO; rw [q1, q2, q4, her]; rfl)
              clear BAD GOOD her
              go_wp2_with fail
              exact ⟨⟨j + 1, by omega, by go_num, HG2.out⟩, by simp [intOf]; omega⟩
            · by_cases b5 : 0 < oj.d.length
              · have q5 : decide ((0 : Int) < (oj.d.length : Int)) = true := decide_eq_true (by omega)
                have q6 : decide (0 < oj.d.length) = true := decide_eq_true b5
                have HB := BAD (by unfold badO; rw [her, q6]; simp)
                clear BAD GOOD her
                go_wp2_with fail
                go_ret
                exact ⟨by rw [HB.out]; simp, rfl⟩
              · have q5 : decide ((0 : Int) < (oj.d.length : Int)) = false := decide_eq_false (by omega)
                have q6 : decide (0 < oj.d.length) = false := decide_eq_false b5
                have HG2 := GOOD (by unfold badO; rw [q1, q2, q4, q6, her]; rfl)
                clear BAD GOOD her
                go_wp2_with fail
                exact ⟨⟨j + 1, by omega, by go_num, HG2.out⟩, by simp [intOf]; omega⟩
    · obtain rfl : j = os.length := by omega
      have HN := Lib.hid (any_none (fun o : OpV => badO rs.length o) os op0 hgood)
      clear hgood
      go_wp2_with fail
      refine (refValid_any x rs c _ hs hn).mono ?_
      rintro e w1 ⟨rfl, hw1⟩
      obtain rfl : w = w1 := hw1.symm
      clear hw1
      rw [HQ.out]
      go_wp2_with fail
      go_ret
      exact ⟨by rw [HN.out]; cases q <;> rfl, rfl⟩

end Go.Proofs.Ytgibfagnfhgelaa
