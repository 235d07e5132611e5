/- LAW BlockReads. -/
import Derived.Test.YtgibfagnfhgelaaPureRn
import Derived.Test.YtgibfagnfhgelaaBlkN
import Derived.Test.YtgibfagnfhgelaaBlkP
import Derived.Test.YtgibfagnfhgelaaBlkQ
import Derived.Test.YtgibfagnfhgelaaQuietC
namespace Go.Proofs.Ytgibfagnfhgelaa
open Go.RowKit

/-- A block that no operation names stays. -/
theorem runL_other (os : List OpV) (i : Nat) : ∀ ls : List (List UInt8), (∀ o, o ∈ os → o.blk ≠ (i : Int)) → (∀ o, o ∈ os → 0 ≤ o.blk) → (runL ls os).getD i [] = ls.getD i [] := by
  induction os with
  | nil => intro ls _ _; rfl
  | cons o os ih =>
    intro ls h h0
    rw [runL_cons, ih _ (fun p hp => h p (List.mem_cons_of_mem _ hp)) (fun p hp => h0 p (List.mem_cons_of_mem _ hp))]
    unfold doOp
    have h1 := h o List.mem_cons_self
    have h2 := h0 o List.mem_cons_self
    rw [List.getD_eq_getElem?_getD, List.getElem?_set_ne (by omega), ← List.getD_eq_getElem?_getD]
/-- The last operation on a block counts. -/
theorem runL_last (ls : List (List UInt8)) (os : List OpV) (m i : Nat) (hv : vldO ls os = true) (hm : m < os.length) (hi : (os.getD m op0).blk = (i : Int)) (hl : ∀ p, m < p → p < os.length → (os.getD p op0).blk ≠ (i : Int)) : (runL ls os).getD i [] = outO (os.getD m op0).er (os.getD m op0).d := by
  obtain ⟨h1, h2⟩ := (vldO_iff _ _).1 hv
  have h54 := ((vldS_iff _).1 h1).2
  have hok : OkO (runL ls (os.take m)).length (os.getD m op0) := by rw [runL_len]; exact okO_of (h2 _ (getD_mem os m op0 hm))
  rw [← run_split ls os (m + 1), runL_other, runL_take ls os m hm, doOp_full _ _ (h54.runL _) hok, hi, Int.toNat_natCast, getD_setL _ _ _ _ (by have := hok.1; rw [hi] at this; omega), if_pos rfl]
  · intro o ho
    obtain ⟨p, hp, rfl⟩ := List.getElem_of_mem ho
    rw [List.length_drop] at hp
    have := hl (m + 1 + p) (by omega) (by omega)
    rw [List.getElem_drop]
    rwa [List.getD_eq_getElem?_getD, List.getElem?_eq_getElem (by omega)] at this
  · intro o ho
    exact (okO_of (h2 o (List.mem_of_mem_drop ho))).1.1
def LastIs (os : List OpV) (i n : Nat) (la : Int) : Prop := (la = -1 ∧ ∀ p, p < n → (os.getD p op0).blk ≠ (i : Int)) ∨ ∃ m : Nat, m < n ∧ la = (m : Int) ∧ (os.getD m op0).blk = (i : Int) ∧ ∀ p, m < p → p < n → (os.getD p op0).blk ≠ (i : Int)

set_option maxRecDepth 20000 in
set_option maxHeartbeats 4000000 in
theorem blockreads_law (x : Option Addr) (rs : List Rw) (c : Nat) (y : Option Addr) (os : List OpV) (cy : Nat) (w : World) (hs : Rws w x rs) (hrn : rs.length ≤ 9223372036854775807) (ho : Ops w y os) (hyn : y = none → cy = 0) (hcy : os.length ≤ cy ∧ cy ≤ 9223372036854775807) :
    Calls Try.prog 4 #[.agg #[.slice x rs.length c], .slice y os.length cy] w (YesOf w) := by
  have hB := Below.refl w.heap.size w
  by_cases hf : fewB (rs.map (·.l)) os = false
  · have HF : Hid (fewB (rs.map (·.l)) os = false) := hf
    clear hf
    go_enter Try.func4, Try.ntmps4
    go_wp2_with fail
    refine (few_any x rs c y os cy _ (hs.later (al hB _)) (ho.later (al hB _)) hrn (by omega)).mono ?_
    rintro e w1 ⟨rfl, hb⟩
    rw [HF.out]
    have g0 := later (a := ⟨w.heap.size, 0, none⟩) (v := .slice x rs.length c) hb (by go_simp)
    have hB1 := thru (al hB _) hb
    clear hb
    go_wp2_with fail
    refine (awake_any _).mono ?_
    rintro e w' ⟨rfl, hb⟩
    go_wp2_with fail
    go_ret
    exact ⟨rfl, thru hB1 hb⟩
  · have hf1 : fewB (rs.map (·.l)) os = true := by simpa using hf
    have HF : Hid (fewB (rs.map (·.l)) os = true) := hf1
    obtain ⟨hl1, -, hr70, ho20⟩ := (fewB_iff _ _).1 hf1
    rw [List.length_map] at hr70
    have hl0 : ∀ r, r ∈ rs → r.l.length ≤ 100000 := fun r hr => by have := hl1 r.l (List.mem_map_of_mem hr); omega
    clear hf hf1 hl1
    have hR : ∀ W, Rws W x rs → Ops W y os → Calls Try.prog 15 #[.agg #[.slice x rs.length c], .slice y os.length cy] W (ErrOf (if vldO (rs.map (·.l)) os = true then runL (rs.map (·.l)) os else rs.map (·.l)) (if vldO (rs.map (·.l)) os = true then 0 else 2) W) := fun W h1 h2 => run_any x rs c y os cy W h1 (by omega) hl0 h2 hyn (by omega) hcy
    by_cases hv : vldO (rs.map (·.l)) os = true
    · rw [if_pos hv, if_pos hv] at hR
      have HR := Lib.hid hR
      have HV : Hid (vldO (rs.map (·.l)) os = true) := hv
      have hvs := ((vldO_iff _ _).1 hv).1
      have hvt := vldS_runL (rs.map (·.l)) os hvs
      have htl : (runL (rs.map (·.l)) os).length = rs.length := by rw [runL_len, List.length_map]
      have HVS := Lib.hid hvs
      have HVT := Lib.hid hvt
      have HTL := Lib.hid htl
      clear hR hv hvs hvt htl
      go_enter Try.func4, Try.ntmps4
      go_wp2_with fail
      refine (few_any x rs c y os cy _ (hs.later (al hB _)) (ho.later (al hB _)) hrn (by omega)).mono ?_
      rintro e w1 ⟨rfl, hb⟩
      rw [HF.out]
      have g0 := later (a := ⟨w.heap.size, 0, none⟩) (v := .slice x rs.length c) hb (by go_simp)
      have hB1 := thru (al hB _) hb
      clear hb
      go_wp2_with fail
      refine (HR.out _ (hs.later hB1) (ho.later hB1)).mono ?_
      rintro e w2 ⟨xt, ct, rt, rfl, hot, hmt, hb⟩
      have hB2 := thru hB1 hb
      have hrt := hot.rws
      replace g0 := later hb g0
      clear hb hot
      have hlt : rt.length = rs.length := by have := congrArg List.length hmt; rw [List.length_map] at this; rw [this]; exact HTL.out
      have HMT := Lib.hid hmt
      have HLT := Lib.hid hlt
      have hrt70 : rt.length ≤ 70 := by omega
      clear hmt hlt
      have hrt1 := hrt.later (al (Below.refl _ w2) (.cells #[.slice xt rt.length ct] 24))
      have gt := cell_new w2 #[.slice xt rt.length ct] 24 (0, 0) 0
      have g00 := later (al (Below.refl _ w2) (.cells #[.slice xt rt.length ct] 24)) g0
      have hB3 := al hB2 (.cells #[.slice xt rt.length ct] 24)
      have hz0 : w.heap.size < w2.heap.size := World.block_lt_of_cell? _ _ g0
      go_wp2_with fail
      obtain ⟨b5, hb5⟩ : ∃ b, w2.heap.size = b := ⟨_, rfl⟩
      obtain ⟨V, hV⟩ : ∃ V, w2.alloc (.cells #[.slice xt rt.length ct] 24) = V := ⟨_, rfl⟩
      rw [hV] at hrt1 gt g00 hB3 ⊢
      rw [hb5] at gt ⊢
      clear hV hb5 hrt hB2 hB1 g0
      go_loopw [30] (fun u30 wr => ∃ j : Nat, j ≤ rt.length ∧ u30 = .int .i64 (j : Int) ∧ Below w.heap.size w wr ∧ Rws wr xt rt ∧ wr.cell? ⟨b5, 0, none⟩ = some (.slice xt rt.length ct) ∧ wr.cell? ⟨w.heap.size, 0, none⟩ = some (.slice x rs.length c)) (fun u30 _ => rt.length - (intOf u30).toNat)
      case atStart => exact ⟨0, by omega, rfl, hB3, hrt1, gt, g00⟩
      case round =>
        clear hB3 hrt1 gt g00
        obtain ⟨j, hj, rfl, hBr, hrr, gt, g0⟩ := hrel
        by_cases hlt : j < rt.length
        · have d1 : decide ((j : Int) < (rt.length : Int)) = true := by simp; omega
          go_wp2_with fail
          obtain ⟨wo, rfl⟩ : ∃ wo : World, wo = wr := ⟨_, rfl⟩
          go_loopw [8, 35] (fun u8 u35 wr => ∃ (n : Nat) (la : Int), n ≤ os.length ∧ u35 = .int .i64 (n : Int) ∧ u8 = .int .i64 la ∧ LastIs os j n la ∧ Below w.heap.size w wr ∧ Rws wr xt rt ∧ wr.cell? ⟨b5, 0, none⟩ = some (.slice xt rt.length ct) ∧ wr.cell? ⟨w.heap.size, 0, none⟩ = some (.slice x rs.length c)) (fun _ u35 _ => os.length - (intOf u35).toNat)
          case atStart => exact ⟨0, -1, by omega, rfl, rfl, .inl ⟨rfl, fun p hp => by omega⟩, hBr, hrr, gt, g0⟩
          case round =>
            clear hBr hrr gt g0
            obtain ⟨n, la, hn, rfl, rfl, hla, hBr, hrr, gt, g0⟩ := hrel
            by_cases hnt : n < os.length
            · have d2 : decide ((n : Int) < (os.length : Int)) = true := by simp; omega
              obtain ⟨b0, o0, rfl, k0, k1, k2, -⟩ := (ho.later hBr).at n hnt
              obtain ⟨on, hon⟩ : ∃ o, os.getD n op0 = o := ⟨_, rfl⟩
              rw [hon] at k0 k1 k2
              have HON := Lib.hid hon
              have HLA := Lib.hid hla
              have hrr' := hrr.later (al (Below.refl _ wr) (.cells #[.int .i64 on.blk, .bool on.er, .slice on.x on.d.length on.c] 31))
              have gt' := later (al (Below.refl _ wr) (.cells #[.int .i64 on.blk, .bool on.er, .slice on.x on.d.length on.c] 31)) gt
              have g0' := later (al (Below.refl _ wr) (.cells #[.int .i64 on.blk, .bool on.er, .slice on.x on.d.length on.c] 31)) g0
              have hBr' := al hBr (.cells #[.int .i64 on.blk, .bool on.er, .slice on.x on.d.length on.c] 31)
              clear hon hla
              by_cases he : on.blk = (j : Int)
              · have q1 : (on.blk == (j : Int)) = true := by rw [beq_iff_eq]; exact he
                have HE := Lib.hid he
                clear he
                go_wp2_with fail
                exact ⟨⟨n + 1, (n : Int), by omega, by go_num, rfl, .inr ⟨n, by omega, rfl, by rw [HON.out]; exact HE.out, fun p h1 h2 => by omega⟩, hBr', hrr', gt', g0'⟩, by simp [intOf]; omega⟩
              · have q1 : (on.blk == (j : Int)) = false := by rw [beq_eq_false_iff_ne]; exact he
                have HE := Lib.hid he
                clear he
                go_wp2_with fail
                refine ⟨⟨n + 1, la, by omega, by go_num, rfl, ?_, hBr', hrr', gt', g0'⟩, by simp [intOf]; omega⟩
                rcases HLA.out with ⟨h1, h2⟩ | ⟨m, h1, h2, h3, h4⟩
                · exact .inl ⟨h1, fun p hp => by
                    by_cases e : p = n
                    · subst e; rw [HON.out]; exact HE.out
                    · exact h2 p (by omega)⟩
                · exact .inr ⟨m, by omega, h2, h3, fun p hp hp2 => by
                    by_cases e : p = n
                    · subst e; rw [HON.out]; exact HE.out
                    · exact h4 p hp (by omega)⟩
            · obtain rfl : n = os.length := by omega
              have hjT : j < (runL (rs.map (·.l)) os).length := by rw [HTL.out, ← HLT.out]; exact hlt
              have hrdT := rdC_in (runL (rs.map (·.l)) os) j HVT.out hjT
              have hrmT := rdM_in (runL (rs.map (·.l)) os) j
              have hRD : ∀ W, Rws W xt rt → Calls Try.prog 13 #[.agg #[.slice xt rt.length ct], .int .i64 (j : Int)] W (ReadOf (runL (rs.map (·.l)) os) (j : Int) W) := fun W h => by
                have := read_any xt rt ct (j : Int) W h (by omega)
                rwa [HMT.out] at this
              rcases hla with ⟨rfl, hno⟩ | ⟨m, hm, rfl, hmb, hml⟩
              · have hsame : (runL (rs.map (·.l)) os).getD j [] = (rs.map (·.l)).getD j [] := runL_other os j _ (fun o ho' => by
                  obtain ⟨p, hp, rfl⟩ := List.getElem_of_mem ho'
                  have := hno p hp
                  rwa [List.getD_eq_getElem?_getD, List.getElem?_eq_getElem hp] at this) (fun o ho' => (okO_of (((vldO_iff _ _).1 HV.out).2 o ho')).1.1)
                have hC2 : rdC (rs.map (·.l)) (j : Int) = rdC (runL (rs.map (·.l)) os) (j : Int) := by
                  rw [hrdT, rdC_in _ j HVS.out (by rw [List.length_map, ← HLT.out]; exact hlt), hsame]
                have hM2 : rdM (rs.map (·.l)) (j : Int) = rdM (runL (rs.map (·.l)) os) (j : Int) := by rw [hrmT, rdM_in, hC2, hsame]
                have hRS : ∀ W, Rws W x rs → Rws W xt rt → Calls Try.prog 26 #[.agg #[.slice x rs.length c], .agg #[.slice xt rt.length ct], .int .i64 (j : Int)] W fun e w' => e = .returned (.bool true) ∧ Below W.heap.size W w' := fun W h1 h2 => by
                  have := reads_any x rs c xt rt ct (j : Int) W h1 h2 (by omega) (by omega)
                  rwa [HMT.out, hC2, hM2, beq_self_eq_true, beq_self_eq_true] at this
                have HRS := Lib.hid hRS
                have HRD := Lib.hid hRD
                clear hRD hRS hrdT hrmT hsame hC2 hM2 hno hjT
                go_wp2_with fail
                refine (HRD.out _ hrr).mono ?_
                rintro e v1 ⟨x1, c1, rfl, ho1, hb⟩
                have hBr1 := thru hBr hb
                have hrr1 := hrr.later hb
                have gt1 := later hb gt
                have g01 := later hb g0
                clear hb ho1 hBr hrr gt g0
                go_wp2_with fail
                refine (HRS.out _ (hs.later hBr1) hrr1).mono ?_
                rintro e v2 ⟨rfl, hb⟩
                have hBr2 := thru hBr1 hb
                have hrr2 := hrr1.later hb
                have gt2 := later hb gt1
                have g02 := later hb g01
                clear hb hBr1 hrr1 gt1 g01
                go_wp2_with fail
                exact ⟨⟨j + 1, by omega, by go_num, hBr2, hrr2, gt2, g02⟩, by simp [intOf]; omega⟩
              · have hlast := runL_last (rs.map (·.l)) os m j HV.out hm hmb hml
                rw [hlast] at hrdT hrmT
                have hd48 : (os.getD m op0).d.length ≤ 48 := (okO_of (((vldO_iff _ _).1 HV.out).2 _ (getD_mem os m op0 hm))).2
                obtain ⟨b0, o0, rfl, k0, k1, k2, hok⟩ := ho.at m hm
                obtain ⟨⟨blk, er, xd, cd, d⟩, hom⟩ : ∃ o, os.getD m op0 = o := ⟨_, rfl⟩
                rw [hom] at k0 k1 k2 hok hrdT hrmT hd48
                dsimp only at k0 k1 k2 hrdT hrmT hd48
                have mB1 : (m : Int) < (os.length : Int) := by omega
                have m0 : decide ((m : Int) < 0) = false := decide_eq_false (by omega)
                cases er
                · have hC0 : rdC (runL (rs.map (·.l)) os) (j : Int) = 0 := by rw [hrdT]; exact readE_encL d hd48
                  have hM0 : rdM (runL (rs.map (·.l)) os) (j : Int) = d := by rw [hrmT, hC0, if_pos rfl]; exact readD_encL d hd48
                  unfold ReadOf at hRD
                  rw [hC0, hM0] at hRD
                  have HRD := Lib.hid hRD
                  have hse : ((⟨d.toArray⟩ : ByteArray) == ⟨d.toArray⟩) = true := by rw [str_eq]; exact beq_self_eq_true d
                  have hse2 : ((⟨d.toArray⟩ : ByteArray) != ⟨d.toArray⟩) = false := by show (!((⟨d.toArray⟩ : ByteArray) == ⟨d.toArray⟩)) = false; rw [hse]; rfl
                  clear hRD hrdT hrmT hlast hC0 hM0 hml hmb hom hjT
                  go_wp2_with fail
                  refine (HRD.out _ hrr).mono ?_
                  rintro e v1 ⟨x1, c1, rfl, ho1, hb⟩
                  have hBr1 := thru hBr hb
                  have hrr1 := hrr.later hb
                  have gt1 := later hb gt
                  have g01 := later hb g0
                  have j1 := later hBr1 k1
                  have j2 := later hBr1 k2
                  have e1 := ho1.bts
                  have e2 := hok.1.later hBr1
                  dsimp only at e2
                  clear hb ho1 hBr hrr gt g0 k0 k1 k2
                  go_wp2_with fail
                  refine wp_region_sched (fun W => W.cell? ⟨b0, o0 + m * 3 + 2, none⟩ = some (.slice xd d.length cd) ∧ Bts W x1 d ∧ Bts W xd d ∧ Below w.heap.size w W ∧ Rws W xt rt ∧ W.cell? ⟨b5, 0, none⟩ = some (.slice xt rt.length ct) ∧ W.cell? ⟨w.heap.size, 0, none⟩ = some (.slice x rs.length c)) (.done [0, 1, 2, 3, 4, 5, 6, 7, 8, 9, 10, 11, 12, 13]) (by kernel_rfl) (by kernel_rfl) (fun _ _ _ _ _ h => h) ⟨(by go_simp), e1, e2, hBr1.drew, hrr1, (by go_simp), (by go_simp)⟩ ?_
                  clear j2 e1 e2 hBr1 hrr1 gt1 g01
                  rintro W ⟨j2, e1, e2, hBr1, hrr1, gt1, g01⟩
                  rw [wpSched]
                  simp only [pick, List.map_cons, List.map_nil, Array.getD_eq_getD_getElem?, List.getElem?_toArray, List.getElem?_cons_succ, List.getElem?_cons_zero, Option.getD_some]
                  have kj2 := plusW_cell j2
                  have kgt1 := plusW_cell gt1
                  have kg01 := plusW_cell g01
                  have qa := fun w' (hw' : OutOf W w') => run_conv (P := Try.prog) (src := 25) (e := 5) (dst := 9) Try.underlying25 Try.underlying5 Try.underlying9 (e1.later hw'.below) c1
                  have qb := fun w' (hw' : OutOf W w') => run_conv (P := Try.prog) (src := 25) (e := 5) (dst := 9) Try.underlying25 Try.underlying5 Try.underlying9 (e2.later hw'.below) cd
                  repeat (first | (refine wpQuiet_conv rfl _ _ (.tmp 77) rfl rfl qa ?_; try simp only [Act.put, List.setIfInBounds_toArray, List.set_cons_zero, List.set_cons_succ]) | (refine wpQuiet_conv rfl _ _ (.tmp 83) rfl rfl qb ?_; try simp only [Act.put, List.setIfInBounds_toArray, List.set_cons_zero, List.set_cons_succ]) | go_big_quiet_step (fail) | quiet_step (fail))
                  refine wpQuiet_nil ?_
                  clear kj2 kgt1 kg01

                  clear qa qb hse
                  go_wp2_with fail
                  exact ⟨⟨j + 1, by omega, by go_num, hBr1, hrr1, gt1, g01⟩, by simp [intOf]; omega⟩
                · have hC0 : rdC (runL (rs.map (·.l)) os) (j : Int) = 6 := by rw [hrdT]; exact readE_erased
                  have hM0 : rdM (runL (rs.map (·.l)) os) (j : Int) = [] := by rw [hrmT, hC0]; rfl
                  unfold ReadOf at hRD
                  rw [hC0, hM0] at hRD
                  have HRD := Lib.hid hRD
                  clear hRD hrdT hrmT hlast hC0 hM0 hml hmb hom hjT
                  go_wp2_with fail
                  refine (HRD.out _ hrr).mono ?_
                  rintro e v1 ⟨x1, c1, rfl, ho1, hb⟩
                  have hBr1 := thru hBr hb
                  have hrr1 := hrr.later hb
                  have gt1 := later hb gt
                  have g01 := later hb g0
                  have j1 := later hBr1 k1
                  clear hb ho1 hBr hrr gt g0 k0 k1 k2
                  go_wp2_with fail
                  exact ⟨⟨j + 1, by omega, by go_num, hBr1, hrr1, gt1, g01⟩, by simp [intOf]; omega⟩
        · obtain rfl : j = rt.length := by omega
          go_wp2_with fail
          refine (awake_any _).mono ?_
          rintro e w' ⟨rfl, hb⟩
          go_wp2_with fail
          go_ret
          exact ⟨rfl, thru hBr hb⟩
    · rw [if_neg hv, if_neg hv] at hR
      have HR := Lib.hid hR
      clear hR hv
      go_enter Try.func4, Try.ntmps4
      go_wp2_with fail
      refine (few_any x rs c y os cy _ (hs.later (al hB _)) (ho.later (al hB _)) hrn (by omega)).mono ?_
      rintro e w1 ⟨rfl, hb⟩
      rw [HF.out]
      have g0 := later (a := ⟨w.heap.size, 0, none⟩) (v := .slice x rs.length c) hb (by go_simp)
      have hB1 := thru (al hB _) hb
      clear hb
      go_wp2_with fail
      refine (HR.out _ (hs.later hB1) (ho.later hB1)).mono ?_
      rintro e w2 ⟨xt, ct, rt, rfl, hot, hmt, hb⟩
      have hB2 := thru hB1 hb
      have hrt := hot.rws
      replace g0 := later hb g0
      clear hb hot
      go_wp2_with fail
      refine (awake_any _).mono ?_
      rintro e w' ⟨rfl, hb⟩
      go_wp2_with fail
      go_ret
      exact ⟨rfl, thru (al hB2 _) hb⟩

end Go.Proofs.Ytgibfagnfhgelaa
