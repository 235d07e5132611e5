/- WALKS of the block layer: Read. -/
import Derived.Test.YtgibfagnfhgelaaBlkI
import Derived.Test.YtgibfagnfhgelaaClone
namespace Go.Proofs.Ytgibfagnfhgelaa
open Go.RowKit

/-- The data that a block claims to hold. -/
def readD (b : List UInt8) : List UInt8 := (b.drop 1).take (b.getD 0 0).toNat
/-- The code of reading a block. -/
def readE (b : List UInt8) : Int := if b = erasedL then 6 else if b.getD 53 0 ≠ 0 then 370 else if 48 < (b.getD 0 0).toNat then 371 else if b = encL (readD b) then 0 else 371
/-- The code of Read. -/
def rdC (ls : List (List UInt8)) (i : Int) : Int := if vldS ls = true ∧ 0 ≤ i ∧ i < (ls.length : Int) then readE (ls.getD i.toNat []) else 2
/-- The data that Read returns. -/
def rdM (ls : List (List UInt8)) (i : Int) : List UInt8 := if rdC ls i = 0 then readD (ls.getD i.toNat []) else []
def ReadOf (ls : List (List UInt8)) (i : Int) (w : World) (e : Ending) (w' : World) : Prop := ∃ x cap, e = .returned (.tuple #[.slice x (rdM ls i).length cap, .int .i64 (rdC ls i)]) ∧ OwnsB w.heap.size w' x cap (rdM ls i) ∧ Below w.heap.size w w'
theorem Bts.mid {w : World} {g o : Nat} {l : List UInt8} (h : Bts w (some ⟨g, o, none⟩) l) (k n : Nat) : Bts w (some ⟨g, o + k, none⟩) ((l.drop k).take n) := by
  rcases h with h | ⟨b, o', hx, hc⟩
  · subst h; exact .inl (by simp)
  · cases hx
    refine .inr ⟨g, o + k, rfl, fun i hi => ?_⟩
    rw [List.length_take, List.length_drop] at hi
    have := hc (k + i) (by omega)
    rw [Nat.add_assoc, this, List.getD_eq_getElem?_getD, List.getD_eq_getElem?_getD, List.getElem?_take, if_pos (by omega), List.getElem?_drop]
theorem readD_len (b : List UInt8) (hb : b.length = 54) (h : (b.getD 0 0).toNat ≤ 48) : (readD b).length = (b.getD 0 0).toNat := by
  unfold readD; rw [List.length_take, List.length_drop]; omega
set_option maxRecDepth 20000 in
set_option maxHeartbeats 4000000 in
theorem read_any (x : Option Addr) (rs : List Rw) (c : Nat) (i : Int) (w : World) (hs : Rws w x rs) (hn : rs.length ≤ 1000) : Calls Try.prog 13 #[.agg #[.slice x rs.length c], .int .i64 i] w (ReadOf (rs.map (·.l)) i w) := by
  have hB := Below.refl w.heap.size w
  by_cases hv : vldS (rs.map (·.l)) = false
  · have HV : Hid (vldS (rs.map (·.l)) = false) := hv
    have HC : Hid (rdC (rs.map (·.l)) i = 2) := by show _ = _; unfold rdC; rw [if_neg (by rw [hv]; simp)]
    have HM : Hid (rdM (rs.map (·.l)) i = []) := by show _ = _; unfold rdM; rw [HC.out]; rfl
    clear hv
    go_enter Try.func13, Try.ntmps13
    go_wp2_with fail
    refine (valid_any x rs c _ (hs.later (al hB _)) hn).mono ?_
    rintro e w1 ⟨rfl, hb⟩
    rw [HV.out]
    have g0 := later (a := ⟨w.heap.size, 0, none⟩) (v := .slice x rs.length c) hb (by go_simp)
    have hB1 := thru (al hB _) hb
    clear hb
    go_wp2_with fail
    refine bodyPost_ret (v := .tuple #[.slice none 0 0, .int .i64 2]) (by simp [results, Try.results13, go_sem]) rfl ⟨none, 0, by rw [HM.out, HC.out]; rfl, by rw [HM.out]; exact OwnsB.nil _ _, hB1⟩
  · have hv1 : vldS (rs.map (·.l)) = true := by simpa using hv
    have HV : Hid (vldS (rs.map (·.l)) = true) := hv1
    by_cases h1 : i < 0
    · have HC : Hid (rdC (rs.map (·.l)) i = 2) := by show _ = _; unfold rdC; rw [if_neg (by omega)]
      have HM : Hid (rdM (rs.map (·.l)) i = []) := by show _ = _; unfold rdM; rw [HC.out]; rfl
      have a1 : decide (i < 0) = true := decide_eq_true h1
      go_enter Try.func13, Try.ntmps13
      go_wp2_with fail
      refine (valid_any x rs c _ (hs.later (al hB _)) hn).mono ?_
      rintro e w1 ⟨rfl, hb⟩
      rw [HV.out]
      have g0 := later (a := ⟨w.heap.size, 0, none⟩) (v := .slice x rs.length c) hb (by go_simp)
      have hB1 := thru (al hB _) hb
      clear hb
      go_wp2_with fail
      refine bodyPost_ret (v := .tuple #[.slice none 0 0, .int .i64 2]) (by simp [results, Try.results13, go_sem]) rfl ⟨none, 0, by rw [HM.out, HC.out]; rfl, by rw [HM.out]; exact OwnsB.nil _ _, hB1⟩
    · by_cases h2 : (rs.length : Int) ≤ i
      · have HC : Hid (rdC (rs.map (·.l)) i = 2) := by show _ = _; unfold rdC; rw [if_neg (by rw [List.length_map]; omega)]
        have HM : Hid (rdM (rs.map (·.l)) i = []) := by show _ = _; unfold rdM; rw [HC.out]; rfl
        have a1 : decide (i < 0) = false := decide_eq_false h1
        have a2 : decide ((rs.length : Int) ≤ i) = true := decide_eq_true h2
        go_enter Try.func13, Try.ntmps13
        go_wp2_with fail
        refine (valid_any x rs c _ (hs.later (al hB _)) hn).mono ?_
        rintro e w1 ⟨rfl, hb⟩
        rw [HV.out]
        have g0 := later (a := ⟨w.heap.size, 0, none⟩) (v := .slice x rs.length c) hb (by go_simp)
        have hB1 := thru (al hB _) hb
        clear hb
        go_wp2_with fail
        refine bodyPost_ret (v := .tuple #[.slice none 0 0, .int .i64 2]) (by simp [results, Try.results13, go_sem]) rfl ⟨none, 0, by rw [HM.out, HC.out]; rfl, by rw [HM.out]; exact OwnsB.nil _ _, hB1⟩
      · obtain ⟨j, rfl⟩ : ∃ j : Nat, i = (j : Int) := ⟨i.toNat, by omega⟩
        have hj : j < rs.length := by omega
        have a1 : decide ((j : Int) < 0) = false := decide_eq_false h1
        have a2 : decide ((rs.length : Int) ≤ (j : Int)) = false := decide_eq_false h2
        have a2n : decide (rs.length ≤ j) = false := decide_eq_false (by omega)
        have jB : (j : Int) < (rs.length : Int) := by omega
        obtain ⟨-, h54⟩ := (vldS_iff _).1 hv1
        obtain ⟨b0, o0, rfl, hcj, hrj⟩ := hs.at j hj
        obtain ⟨⟨xr, cr, l⟩, hr⟩ : ∃ r, rs.getD j rw0 = r := ⟨_, rfl⟩
        have hgl : (rs.map (·.l)).getD j [] = l := by rw [getD_map_l, hr]
        have hl : l.length = 54 := by rw [← hgl]; exact h54.getD j (by rw [List.length_map]; exact hj)
        have HIN : Hid (rdC (rs.map (·.l)) (j : Int) = readE l) := by
          show _ = _
          unfold rdC
          rw [if_pos ⟨hv1, by omega, by rw [List.length_map]; omega⟩, Int.toNat_natCast, hgl]
        have HGL := Lib.hid hgl
        rw [hr] at hcj hrj
        obtain ⟨hbt, hxn, hcr1, hcr2⟩ := hrj
        dsimp only at hbt hxn hcr1 hcr2
        obtain ⟨g, o, rfl, hcc⟩ : ∃ g o, xr = some ⟨g, o, none⟩ ∧ ∀ i, i < l.length → w.cell? ⟨g, o + i, none⟩ = some (encB (l.getD i 0)) := by
          rcases hbt with h | ⟨g, o, h1, h2⟩
          · subst h; cases hl
          · exact ⟨g, o, h1, h2⟩
        have hcj : w.cell? ⟨b0, o0 + j, none⟩ = some (.slice (some ⟨g, o, none⟩) 54 cr) := by rw [hcj]; unfold encR; rw [hl]
        have c0 : w.cell? ⟨g, o, none⟩ = some (.int .u8 ((l.getD 0 0).toNat : Int)) := by have := hcc 0 (by omega); rwa [Nat.add_zero] at this
        have c53 : w.cell? ⟨g, o + 53, none⟩ = some (.int .u8 ((l.getD 53 0).toNat : Int)) := hcc 53 (by omega)
        have hEQ : ∀ ge W, Bts W (some ⟨g, o, none⟩) l → Bts W (some ⟨ge, 0, none⟩) erasedL → Calls Try.prog 29 #[.slice (some ⟨g, o, none⟩) 54 cr, .slice (some ⟨ge, 0, none⟩) 54 54] W fun e w' => e = .returned (.bool (l == erasedL)) ∧ w' = W := fun ge W h1 h2 => by
          have := equal_any _ _ l erasedL cr 54 W h1 h2
          rwa [hl] at this
        rw [hl] at hcr1
        have HL := Lib.hid hl
        clear hr hgl hcc hxn h54 hv hv1 hl
        obtain ⟨z, hz⟩ : ∃ z, l.getD 53 0 = z := ⟨_, rfl⟩
        obtain ⟨n, hnn⟩ : ∃ n, (l.getD 0 0).toNat = n := ⟨_, rfl⟩
        rw [hz] at c53
        rw [hnn] at c0
        have HZ := Lib.hid hz
        have HN := Lib.hid hnn
        have hn256 : n < 256 := by rw [← hnn]; exact UInt8.toNat_lt _
        clear hz hnn
        by_cases he : l = erasedL
        · have HQ : Hid ((l == erasedL) = true) := by show _ = _; rw [beq_iff_eq]; exact he
          have HC : Hid (rdC (rs.map (·.l)) (j : Int) = 6) := by show _ = _; rw [HIN.out]; unfold readE; rw [if_pos he]
          have HM : Hid (rdM (rs.map (·.l)) (j : Int) = []) := by show _ = _; unfold rdM; rw [HC.out]; rfl
          clear he
          go_enter Try.func13, Try.ntmps13
          go_wp2_with fail
          refine (valid_any (some ⟨b0, o0, none⟩) rs c _ (hs.later (al hB _)) hn).mono ?_
          rintro e w1 ⟨rfl, hb⟩
          rw [HV.out]
          have g0 := later (a := ⟨w.heap.size, 0, none⟩) (v := .slice (some ⟨b0, o0, none⟩) rs.length c) hb (by go_simp)
          have hB1 := thru (al hB _) hb
          clear hb
          have e0 := later hB1 hcj
          have hl1 := hbt.later hB1
          have cz := later hB1 c0
          have cm := later hB1 c53
          go_wp2_with fail
          refine (erased_any _).mono ?_
          rintro e w2 ⟨ge, rfl, hge, hgz, hbe, hshe, hb⟩
          have hB2 := thru hB1 hb
          have hl2 := hl1.later hb
          replace cz := later hb cz
          replace cm := later hb cm
          clear hb hl1 e0
          go_wp2_with fail
          refine (hEQ ge w2 hl2 hbe).mono ?_
          rintro e w2' ⟨rfl, hw⟩
          obtain rfl : w2 = w2' := hw.symm
          clear hw
          rw [HQ.out]
          go_wp2_with fail
          refine bodyPost_ret (v := .tuple #[.slice none 0 0, .int .i64 6]) (by simp [results, Try.results13, go_sem]) rfl ⟨none, 0, by rw [HM.out, HC.out]; rfl, by rw [HM.out]; exact OwnsB.nil _ _, hB2⟩
        · have HQ : Hid ((l == erasedL) = false) := by show _ = _; rw [beq_eq_false_iff_ne]; exact he
          by_cases hm : z = 0
          · have z1 : ((z.toNat : Int) != 0) = false := by rw [hm]; rfl
            by_cases h48 : 48 < n
            · have d1 : decide (48 < n) = true := decide_eq_true h48
              have d2 : decide ((48 : Int) < (n : Int)) = true := decide_eq_true (by omega)
              have HC : Hid (rdC (rs.map (·.l)) (j : Int) = 371) := by show _ = _; rw [HIN.out]; unfold readE; rw [if_neg he, HZ.out, hm, if_neg (by simp), HN.out, if_pos h48]
              have HM : Hid (rdM (rs.map (·.l)) (j : Int) = []) := by show _ = _; unfold rdM; rw [HC.out]; rfl
              clear he hm h48
              go_enter Try.func13, Try.ntmps13
              go_wp2_with fail
              refine (valid_any (some ⟨b0, o0, none⟩) rs c _ (hs.later (al hB _)) hn).mono ?_
              rintro e w1 ⟨rfl, hb⟩
              rw [HV.out]
              have g0 := later (a := ⟨w.heap.size, 0, none⟩) (v := .slice (some ⟨b0, o0, none⟩) rs.length c) hb (by go_simp)
              have hB1 := thru (al hB _) hb
              clear hb
              have e0 := later hB1 hcj
              have hl1 := hbt.later hB1
              have cz := later hB1 c0
              have cm := later hB1 c53
              go_wp2_with fail
              refine (erased_any _).mono ?_
              rintro e w2 ⟨ge, rfl, hge, hgz, hbe, hshe, hb⟩
              have hB2 := thru hB1 hb
              have hl2 := hl1.later hb
              replace cz := later hb cz
              replace cm := later hb cm
              clear hb hl1 e0
              go_wp2_with fail
              refine (hEQ ge w2 hl2 hbe).mono ?_
              rintro e w2' ⟨rfl, hw⟩
              obtain rfl : w2 = w2' := hw.symm
              clear hw
              rw [HQ.out]
              go_wp2_with fail
              refine bodyPost_ret (v := .tuple #[.slice none 0 0, .int .i64 371]) (by simp [results, Try.results13, go_sem]) rfl ⟨none, 0, by rw [HM.out, HC.out]; rfl, by rw [HM.out]; exact OwnsB.nil _ _, hB2⟩
            · have d1 : decide (48 < n) = false := decide_eq_false h48
              have d2 : decide ((48 : Int) < (n : Int)) = false := decide_eq_false (by omega)
              have p1 : (1 : Int) ≤ 1 + (n : Int) := by omega
              have p2 : (1 : Int) + (n : Int) ≤ (cr : Int) := by omega
              have hdl : (readD l).length = n := by rw [readD_len l HL.out (by rw [HN.out]; omega), HN.out]
              obtain ⟨d, hd⟩ : ∃ d, readD l = d := ⟨_, rfl⟩
              have hdt : d = (l.drop 1).take n := by rw [← hd, ← HN.out]; rfl
              have HDT := Lib.hid hdt
              rw [hd] at hdl
              have hEN : ∀ W, Bts W (some ⟨g, o, none⟩) l → Calls Try.prog 12 #[.slice (some ⟨g, o + 1, none⟩) n (cr - 1)] W (EncOf d W) := fun W h1 => by
                have := encode_yes (some ⟨g, o + 1, none⟩) d (cr - 1) W (by rw [HDT.out]; exact h1.mid 1 n) (fun h => by cases h) (by omega)
                rwa [hdl] at this
              have hEQ2 : ∀ x3 c3 W, Bts W (some ⟨g, o, none⟩) l → Bts W x3 (encL d) → Calls Try.prog 29 #[.slice (some ⟨g, o, none⟩) 54 cr, .slice x3 54 c3] W fun e w' => e = .returned (.bool (l == encL d)) ∧ w' = W := fun x3 c3 W h1 h2 => by
                have := equal_any _ _ l (encL d) cr c3 W h1 h2
                rwa [HL.out, encL_len d (by omega)] at this
              have hCL : ∀ W, Bts W (some ⟨g, o, none⟩) l → Calls Try.prog 30 #[.slice (some ⟨g, o + 1, none⟩) n (cr - 1)] W (CloneOf d W) := fun W h1 => by
                have := clone_any (some ⟨g, o + 1, none⟩) d (cr - 1) W (by rw [HDT.out]; exact h1.mid 1 n) (by omega)
                rwa [hdl] at this
              have HD := Lib.hid hd
              clear hdt hdl hd
              by_cases hq : l = encL d
              · have HQ2 : Hid ((l == encL d) = true) := by show _ = _; rw [beq_iff_eq]; exact hq
                have HC : Hid (rdC (rs.map (·.l)) (j : Int) = 0) := by show _ = _; rw [HIN.out]; unfold readE; rw [if_neg he, HZ.out, hm, if_neg (by simp), HN.out, if_neg h48, HD.out, if_pos hq]
                have HM : Hid (rdM (rs.map (·.l)) (j : Int) = d) := by show _ = _; unfold rdM; rw [HC.out, if_pos rfl, Int.toNat_natCast, HGL.out, HD.out]
                clear he hm h48 hq
                go_enter Try.func13, Try.ntmps13
                go_wp2_with fail
                refine (valid_any (some ⟨b0, o0, none⟩) rs c _ (hs.later (al hB _)) hn).mono ?_
                rintro e w1 ⟨rfl, hb⟩
                rw [HV.out]
                have g0 := later (a := ⟨w.heap.size, 0, none⟩) (v := .slice (some ⟨b0, o0, none⟩) rs.length c) hb (by go_simp)
                have hB1 := thru (al hB _) hb
                clear hb
                have e0 := later hB1 hcj
                have hl1 := hbt.later hB1
                have cz := later hB1 c0
                have cm := later hB1 c53
                go_wp2_with fail
                refine (erased_any _).mono ?_
                rintro e w2 ⟨ge, rfl, hge, hgz, hbe, hshe, hb⟩
                have hB2 := thru hB1 hb
                have hl2 := hl1.later hb
                replace cz := later hb cz
                replace cm := later hb cm
                clear hb hl1 e0
                go_wp2_with fail
                refine (hEQ ge w2 hl2 hbe).mono ?_
                rintro e w2' ⟨rfl, hw⟩
                obtain rfl : w2 = w2' := hw.symm
                clear hw
                rw [HQ.out]
                go_wp2_with fail
                refine (hEN w2 hl2).mono ?_
                rintro e w3 ⟨x3, c3, rfl, ho3, hb⟩
                have hB3 := thru hB2 hb
                have hl3 := hl2.later hb
                have hx3 := ho3.bts
                clear hb ho3
                go_wp2_with fail
                refine (hEQ2 x3 c3 w3 hl3 hx3).mono ?_
                rintro e w3' ⟨rfl, hw⟩
                obtain rfl : w3 = w3' := hw.symm
                clear hw
                rw [HQ2.out]
                go_wp2_with fail
                refine (hCL w3 hl3).mono ?_
                rintro e w4 ⟨x4, c4, rfl, ho4, hb⟩
                have HO4 := Lib.hid ho4
                have hz3 := hB3.size
                have hB4 := thru hB3 hb
                clear ho4 hb
                go_wp2_with fail
                refine bodyPost_ret (v := .tuple #[.slice x4 d.length c4, .int .i64 0]) (by simp [results, Try.results13, go_sem]) rfl ⟨x4, c4, by rw [HM.out, HC.out], by rw [HM.out]; exact HO4.out.weaken hz3, hB4⟩
              · have HQ2 : Hid ((l == encL d) = false) := by show _ = _; rw [beq_eq_false_iff_ne]; exact hq
                have HC : Hid (rdC (rs.map (·.l)) (j : Int) = 371) := by show _ = _; rw [HIN.out]; unfold readE; rw [if_neg he, HZ.out, hm, if_neg (by simp), HN.out, if_neg h48, HD.out, if_neg hq]
                have HM : Hid (rdM (rs.map (·.l)) (j : Int) = []) := by show _ = _; unfold rdM; rw [HC.out]; rfl
                clear he hm h48 hq
                go_enter Try.func13, Try.ntmps13
                go_wp2_with fail
                refine (valid_any (some ⟨b0, o0, none⟩) rs c _ (hs.later (al hB _)) hn).mono ?_
                rintro e w1 ⟨rfl, hb⟩
                rw [HV.out]
                have g0 := later (a := ⟨w.heap.size, 0, none⟩) (v := .slice (some ⟨b0, o0, none⟩) rs.length c) hb (by go_simp)
                have hB1 := thru (al hB _) hb
                clear hb
                have e0 := later hB1 hcj
                have hl1 := hbt.later hB1
                have cz := later hB1 c0
                have cm := later hB1 c53
                go_wp2_with fail
                refine (erased_any _).mono ?_
                rintro e w2 ⟨ge, rfl, hge, hgz, hbe, hshe, hb⟩
                have hB2 := thru hB1 hb
                have hl2 := hl1.later hb
                replace cz := later hb cz
                replace cm := later hb cm
                clear hb hl1 e0
                go_wp2_with fail
                refine (hEQ ge w2 hl2 hbe).mono ?_
                rintro e w2' ⟨rfl, hw⟩
                obtain rfl : w2 = w2' := hw.symm
                clear hw
                rw [HQ.out]
                go_wp2_with fail
                refine (hEN w2 hl2).mono ?_
                rintro e w3 ⟨x3, c3, rfl, ho3, hb⟩
                have hB3 := thru hB2 hb
                have hl3 := hl2.later hb
                have hx3 := ho3.bts
                clear hb ho3
                go_wp2_with fail
                refine (hEQ2 x3 c3 w3 hl3 hx3).mono ?_
                rintro e w3' ⟨rfl, hw⟩
                obtain rfl : w3 = w3' := hw.symm
                clear hw
                rw [HQ2.out]
                go_wp2_with fail
                refine bodyPost_ret (v := .tuple #[.slice none 0 0, .int .i64 371]) (by simp [results, Try.results13, go_sem]) rfl ⟨none, 0, by rw [HM.out, HC.out]; rfl, by rw [HM.out]; exact OwnsB.nil _ _, hB3⟩
          · have z1 : ((z.toNat : Int) != 0) = true := by
              rw [bne_iff_ne]
              intro h
              exact hm (by rw [← UInt8.toNat_inj]; show z.toNat = 0; omega)
            have HC : Hid (rdC (rs.map (·.l)) (j : Int) = 370) := by show _ = _; rw [HIN.out]; unfold readE; rw [if_neg he, HZ.out, if_pos hm]
            have HM : Hid (rdM (rs.map (·.l)) (j : Int) = []) := by show _ = _; unfold rdM; rw [HC.out]; rfl
            clear he hm
            go_enter Try.func13, Try.ntmps13
            go_wp2_with fail
            refine (valid_any (some ⟨b0, o0, none⟩) rs c _ (hs.later (al hB _)) hn).mono ?_
            rintro e w1 ⟨rfl, hb⟩
            rw [HV.out]
            have g0 := later (a := ⟨w.heap.size, 0, none⟩) (v := .slice (some ⟨b0, o0, none⟩) rs.length c) hb (by go_simp)
            have hB1 := thru (al hB _) hb
            clear hb
            have e0 := later hB1 hcj
            have hl1 := hbt.later hB1
            have cz := later hB1 c0
            have cm := later hB1 c53
            go_wp2_with fail
            refine (erased_any _).mono ?_
            rintro e w2 ⟨ge, rfl, hge, hgz, hbe, hshe, hb⟩
            have hB2 := thru hB1 hb
            have hl2 := hl1.later hb
            replace cz := later hb cz
            replace cm := later hb cm
            clear hb hl1 e0
            go_wp2_with fail
            refine (hEQ ge w2 hl2 hbe).mono ?_
            rintro e w2' ⟨rfl, hw⟩
            obtain rfl : w2 = w2' := hw.symm
            clear hw
            rw [HQ.out]
            go_wp2_with fail
            refine bodyPost_ret (v := .tuple #[.slice none 0 0, .int .i64 370]) (by simp [results, Try.results13, go_sem]) rfl ⟨none, 0, by rw [HM.out, HC.out]; rfl, by rw [HM.out]; exact OwnsB.nil _ _, hB2⟩

end Go.Proofs.Ytgibfagnfhgelaa
