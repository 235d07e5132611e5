/- WALKS of the laws of the block layer: awake. -/
import Derived.Test.YtgibfagnfhgelaaPureRd
import Derived.Test.YtgibfagnfhgelaaBlkL
import Derived.Test.YtgibfagnfhgelaaBlkC
namespace Go.Proofs.Ytgibfagnfhgelaa
open Go.RowKit

/-- The store of the chapter's example. -/
def exS : List (List UInt8) := [encL [1, 2, 3], erasedL]
def exO (x : Option Addr) (c : Nat) (d : List UInt8) : OpV := ⟨0, false, x, c, d⟩
theorem ex_vldS (a : List UInt8) (h : a.length = 54) : vldS [a, erasedL] = true := by
  rw [vldS_iff]
  refine ⟨by simp, fun l hl => ?_⟩
  rcases List.mem_cons.1 hl with rfl | hl
  · exact h
  · obtain rfl : l = erasedL := by simpa using hl
    exact erasedL_len
theorem ex_vldO (a : List UInt8) (h : a.length = 54) (x : Option Addr) (c : Nat) (d : List UInt8) (hd : d.length ≤ 48) : vldO [a, erasedL] [exO x c d] = true := by
  rw [vldO_iff]
  refine ⟨ex_vldS a h, fun o ho => ?_⟩
  obtain rfl : o = exO x c d := by simpa using ho
  rw [badO_iff]
  exact ⟨⟨show (0 : Int) ≤ 0 by decide, show (0 : Int) < 2 by decide⟩, hd, fun h => by cases h⟩
theorem ex_run (x : Option Addr) (c : Nat) : runL [erasedL, erasedL] [exO x c [1, 2, 3]] = exS := by
  unfold exS runL doOp exO
  show [doN [1, 2, 3] 108 erasedL, erasedL] = _
  rw [doN_wr _ _ erasedL_len (by decide)]
theorem ex_cut (x : Option Addr) (c k : Nat) : cutL exS [exO x c [9]] 0 k = [doN [9] k (encL [1, 2, 3]), erasedL] := rfl
theorem ex_len : (encL [1, 2, 3]).length = 54 := encL_len _ (by decide)
theorem ex_cutOk (x : Option Addr) (c k : Nat) (hk : k ≤ 108) : cutOk exS [exO x c [9]] 0 (k : Int) = true := by
  unfold cutOk exS
  rw [ex_vldO _ ex_len x c [9] (by decide), decide_eq_true (show (0 : Int) ≤ 0 by decide), decide_eq_true (show (0 : Int) < (([exO x c [9]] : List OpV).length : Int) by show (0 : Int) < 1; decide), decide_eq_true (show (0 : Int) ≤ (k : Int) by omega), decide_eq_true (show (k : Int) ≤ (lenO (([exO x c [9]] : List OpV).getD (0 : Int).toNat op0).er : Int) by show (k : Int) ≤ 108; omega)]
  rfl
theorem ex_rd1 (a : List UInt8) (h : a.length = 54) : rdC [a, erasedL] 1 = 6 ∧ rdM [a, erasedL] 1 = [] := by
  have h1 : rdC [a, erasedL] 1 = 6 := by
    have := rdC_in [a, erasedL] 1 (ex_vldS a h) (by simp)
    rw [show ((1 : Nat) : Int) = 1 from rfl] at this
    rw [this]; exact readE_erased
  refine ⟨h1, ?_⟩
  unfold rdM; rw [h1]; rfl
theorem ex_rd0 (a : List UInt8) (h : a.length = 54) : rdC [a, erasedL] 0 = readE a ∧ rdM [a, erasedL] 0 = if readE a = 0 then readD a else [] := by
  have h1 : rdC [a, erasedL] 0 = readE a := by
    have := rdC_in [a, erasedL] 0 (ex_vldS a h) (by simp)
    rw [show ((0 : Nat) : Int) = 0 from rfl] at this
    rw [this]; rfl
  refine ⟨h1, ?_⟩
  unfold rdM; rw [h1]; rfl
/-- The codes of the example. -/
def exC (k : Nat) : Int := if k = 0 ∨ k = 108 then 0 else if k ≤ 53 then 371 else if k = 54 then 6 else 370
def exM (k : Nat) : List UInt8 := if k = 0 then [1, 2, 3] else if k = 108 then [9] else []
theorem ex_code (k : Nat) (hk : k ≤ 108) : rdC [doN [9] k (encL [1, 2, 3]), erasedL] 0 = exC k ∧ rdM [doN [9] k (encL [1, 2, 3]), erasedL] 0 = exM k := by
  obtain ⟨h1, h2⟩ := ex_rd0 (doN [9] k (encL [1, 2, 3])) (by rw [doN_len]; exact ex_len)
  rw [h1, h2]
  unfold exC exM
  by_cases k0 : k = 0
  · subst k0
    have e : readE (doN [9] 0 (encL [1, 2, 3])) = 0 := readE_encL [1, 2, 3] (by decide)
    rw [e, if_pos rfl, if_pos (.inl rfl), if_pos rfl]
    exact ⟨rfl, readD_encL [1, 2, 3] (by decide)⟩
  · by_cases k108 : k = 108
    · subst k108
      rw [doN_wr [9] _ ex_len (by decide), readE_encL [9] (by decide), if_pos rfl, if_pos (.inr rfl), if_neg k0, if_pos rfl]
      exact ⟨rfl, readD_encL [9] (by decide)⟩
    · rw [if_neg (by omega), if_neg k0, if_neg k108]
      by_cases h53 : k ≤ 53
      · rw [readE_cut1 [9] _ k ex_len (encL_at53 _ (by decide)) (by omega) h53, if_pos h53]; exact ⟨rfl, rfl⟩
      · rw [if_neg h53]
        by_cases h54 : k = 54
        · subst h54
          rw [doN_er [9] _ ex_len, readE_erased, if_pos rfl]; exact ⟨rfl, rfl⟩
        · rw [if_neg h54, readE_cut2 [9] _ k ex_len (by decide) (by omega) (by omega)]; exact ⟨rfl, rfl⟩
theorem ops_ex {W : World} {g n c : Nat} {x : Option Addr} {d : List UInt8} (hd : d.length = n) (h0 : W.cell? ⟨g, 0, none⟩ = some (.int .i64 0)) (h1 : W.cell? ⟨g, 1, none⟩ = some (.bool false)) (h2 : W.cell? ⟨g, 2, none⟩ = some (.slice x n c)) (hb : Bts W x d) (hx : x = none → c = 0) (hc : n ≤ c ∧ c ≤ 9223372036854775807) : Ops W (some ⟨g, 0, none⟩) [exO x c d] := by
  subst hd
  refine ⟨.inr ⟨g, 0, rfl, fun i hi => ?_⟩, fun p hp => ?_⟩
  · have e : i = 0 := by
      have : i < 1 := hi
      omega
    subst e
    exact ⟨h0, h1, h2⟩
  · have e : p = exO x c d := by simpa using hp
    subst e
    exact ⟨hb, hx, hc.1, hc.2, show (-9223372036854775808 : Int) ≤ 0 by decide, show (0 : Int) ≤ 9223372036854775807 by decide⟩
def kAt (j : Nat) : Nat := [0, 1, 53, 54, 55, 107, 108].getD j 0
theorem kAt_le (j : Nat) (h : j < 7) : kAt j ≤ 108 := by
  match j, h with
  | 0, _ => decide
  | 1, _ => decide
  | 2, _ => decide
  | 3, _ => decide
  | 4, _ => decide
  | 5, _ => decide
  | 6, _ => decide
  | j + 7, h => omega
set_option maxRecDepth 20000 in
set_option maxHeartbeats 4000000 in
theorem awake_any (w : World) : Calls Try.prog 10 #[] w (YesOf w) := by
  have hB := Below.refl w.heap.size w
  go_enter Try.func10, Try.ntmps10
  go_wp2_with fail
  refine (new_yes 2 _ (by decide)).mono ?_
  rintro e w1 ⟨x1, c1, rs1, rfl, hl1, ho1, hb⟩
  have hB1 := thru hB hb
  clear hb
  have hls : rs1.map (·.l) = [erasedL, erasedL] := by rw [ho1.ls, hl1]; rfl
  have hrw := ho1.rws
  rw [hl1]
  clear ho1
  have hln : rs1.length ≤ 1000 := by omega
  have hlb : ∀ r, r ∈ rs1 → r.l.length ≤ 100000 := fun r hr => by
    have : r.l ∈ rs1.map (·.l) := List.mem_map_of_mem hr
    rw [hls] at this
    have e : r.l = erasedL := by simpa using this
    rw [e, erasedL_len]; decide
  have hR : ∀ W g d, Below w1.heap.size w1 W → Ops W (some ⟨g, 0, none⟩) [exO (some ⟨d, 0, none⟩) 3 [1, 2, 3]] → Calls Try.prog 15 #[.agg #[.slice x1 2 c1], .slice (some ⟨g, 0, none⟩) 1 1] W (ErrOf exS 0 W) := fun W g d hb ho => by
    have := run_any x1 rs1 c1 (some ⟨g, 0, none⟩) [exO (some ⟨d, 0, none⟩) 3 [1, 2, 3]] 1 W (hrw.later hb) hln hlb ho (fun h => by cases h) (by simp) ⟨by simp, by decide⟩
    rw [hls, ex_vldO erasedL erasedL_len _ _ _ (by decide), if_pos rfl, if_pos rfl, ex_run, hl1] at this
    exact this
  have HR := Lib.hid hR
  clear hR hrw hls hl1 hlb hln
  go_wp2_with fail
  refine (HR.out _ (w1.heap.size + 1 + 1) (w1.heap.size + 1) (al (al (al (Below.refl _ w1) _) _) _) ?_).mono ?_
  · exact ops_ex (d := [1, 2, 3]) rfl (by go_simp) (by go_simp) (by go_simp) ((bts_new' (w1.heap.size + 1) _ [1, 2, 3] _ _ (by simp)).later (al (Below.refl _ _) _)) (fun h => by cases h) (by decide)
  rintro e w2 ⟨xs, cs, rss, rfl, hos, hml, hb⟩
  have hl2 : rss.length = 2 := by have h := congrArg List.length hml; rw [List.length_map] at h; exact h
  have hB2 := thru (al (al (al hB1 _) _) _) hb
  have g1 := later (a := ⟨w1.heap.size, 0, none⟩) (v := .slice x1 2 c1) hb (later (al (al (Below.refl _ _) _) _) (by go_simp))
  have f1 := (Below.frozen hb (p := ⟨w1.heap.size, 0, none⟩) (by simp; omega)).trans ((Below.frozen (al (al (Below.refl _ _) _) _) (p := ⟨w1.heap.size, 0, none⟩) (by simp)).trans (show _ = false by go_simp))
  have hrs := hos.rws
  have hlow : ∀ b, RowOf xs b → w1.heap.size < b := fun b h => by have := (hos.row.low b h).1; simp at this; omega
  have hlow2 : ∀ r, r ∈ rss → ∀ b, RowOf r.x b → w1.heap.size < b := fun r hr b h => by have := ((hos.each r hr).low b h).1; simp at this; omega
  have HOS := Lib.hid hos
  have HML := Lib.hid hml
  rw [hl2]
  clear hb hos hml HR
  have hz2 : w1.heap.size < w2.heap.size := World.block_lt_of_cell? _ _ g1
  go_wp2_with fail
  obtain ⟨W2, hW2⟩ : ∃ W, w2.setCell ⟨w1.heap.size, 0, none⟩ (.slice xs 2 cs) = W := ⟨_, rfl⟩
  have ts : Turns (fun b => b = w1.heap.size) w2 W2 := by rw [← hW2]; exact (Turns.refl (fun b => b = w1.heap.size) w2).setCell (p := ⟨w1.heap.size, 0, none⟩) (fun _ => rfl) _
  have s1 : W2.cell? ⟨w1.heap.size, 0, none⟩ = some (.slice xs 2 cs) := by rw [← hW2]; exact World.cell?_setCell_same' _ _ _ (by rw [g1]; rfl)
  have hB3 : Below w.heap.size w W2 := by rw [← hW2]; exact hB2.setCell (p := ⟨w1.heap.size, 0, none⟩) hB1.size _
  have hrsW : Rws W2 xs rss := (HOS.out.turn ts (fun b hb e => by have := hlow b hb; omega) (fun r hr b hb e => by have := hlow2 r hr b hb; omega)).rws
  obtain ⟨b1, hb1⟩ : ∃ b, w1.heap.size = b := ⟨_, rfl⟩
  rw [hW2, hb1]
  rw [hb1] at s1
  clear hW2 ts hrs g1 f1 HOS hlow hlow2 hz2 hb1 hB2 hB1 hB
  have hRD : ∀ i W, Rws W xs rss → Calls Try.prog 13 #[.agg #[.slice xs 2 cs], .int .i64 i] W (ReadOf exS i W) := fun i W h => by
    have := read_any xs rss cs i W h (by omega)
    rwa [hl2, HML.out] at this
  obtain ⟨ec, em⟩ := ex_code 0 (by decide)
  have ec2 : rdC exS 0 = 0 := ec
  have em2 : rdM exS 0 = [1, 2, 3] := em
  refine (hRD 0 W2 hrsW).mono ?_
  rintro e w3 ⟨x3, c3, rfl, ho3, hb⟩
  rw [em2] at ho3
  rw [em2, ec2]
  have hB4 := thru hB3 hb
  replace s1 := later hb s1
  have hrs3 := hrsW.later hb
  have e3 : (Go.convert 25 9 (.slice x3 3 c3)).run Try.prog w3 = .ok (.string ⟨#[1, 2, 3]⟩) w3 := run_conv (P := Try.prog) (src := 25) (e := 5) (dst := 9) Try.underlying25 Try.underlying5 Try.underlying9 ho3.bts c3
  obtain ⟨b0, o0, rfl, hc0, hk0⟩ := hrs3.at 0 (by omega)
  obtain ⟨r0, hr0⟩ : ∃ r, rss.getD 0 rw0 = r := ⟨_, rfl⟩
  have hl0 : r0.l = encL [1, 2, 3] := by rw [← hr0, ← getD_map_l, HML.out]; rfl
  rw [hr0] at hc0 hk0
  obtain ⟨x0, cc0, l0⟩ := r0
  dsimp only at hl0
  subst hl0
  have hlE := ex_len
  have c0 : w3.cell? ⟨b0, o0, none⟩ = some (.slice x0 54 cc0) := by rw [Nat.add_zero] at hc0; rw [hc0]; unfold encR; rw [hlE]
  obtain ⟨g0, q0, rfl, hcc⟩ : ∃ g o, x0 = some ⟨g, o, none⟩ ∧ ∀ i, i < (encL [1, 2, 3]).length → w3.cell? ⟨g, o + i, none⟩ = some (encB ((encL [1, 2, 3]).getD i 0)) := by
    rcases hk0.1 with h | ⟨g, o, h1, h2⟩
    · have h' : encL [1, 2, 3] = [] := h
      rw [h'] at hlE; cases hlE
    · exact ⟨g, o, h1, h2⟩
  have d0 : w3.cell? ⟨g0, q0, none⟩ = some (.int .u8 3) := by have := hcc 0 (by omega); rw [Nat.add_zero, encL_at0] at this; exact this
  have d48 : w3.cell? ⟨g0, q0 + 48, none⟩ = some (.int .u8 0) := by have := hcc 48 (by omega); rw [show (encL [1, 2, 3]).getD 48 0 = 0 from rfl] at this; exact this
  have d53 : w3.cell? ⟨g0, q0 + 53, none⟩ = some (.int .u8 0) := by have := hcc 53 (by omega); rw [encL_at53 _ (by decide)] at this; exact this
  have HRS3 := Lib.hid hrs3
  have HLE := Lib.hid hlE
  have HL2 := Lib.hid hl2
  clear hcc hk0 hc0 hr0 hlE hrs3 hrsW ho3 hb hRD ec em ec2 em2 hl2
  go_wp2_with fail
  obtain ⟨bE, hbE⟩ : ∃ b, w3.heap.size = b := ⟨_, rfl⟩
  rw [hbE]
  go_loopw [92] (fun u92 wr => ∃ j : Nat, j ≤ 7 ∧ u92 = .int .i64 (j : Int) ∧ Below w.heap.size w wr ∧ wr.cell? ⟨b1, 0, none⟩ = some (.slice (some ⟨b0, o0, none⟩) 2 cs) ∧ Rws wr (some ⟨b0, o0, none⟩) rss ∧ ∀ i, i < 7 → wr.cell? ⟨bE, i * 2, none⟩ = some (.int .i64 (kAt i : Int)) ∧ wr.cell? ⟨bE, i * 2 + 1, none⟩ = some (.int .i64 (exC (kAt i)))) (fun u92 _ => 7 - (intOf u92).toNat)
  case atStart =>
    refine ⟨0, by omega, rfl, al hB4 _, later (al (Below.refl _ _) _) s1, HRS3.out.later (al (Below.refl _ _) _), fun i hi => ?_⟩
    rw [← hbE]
    match i, hi with
    | 0, _ => exact ⟨cell_new w3 _ _ _ 0, cell_new w3 _ _ _ 1⟩
    | 1, _ => exact ⟨cell_new w3 _ _ _ 2, cell_new w3 _ _ _ 3⟩
    | 2, _ => exact ⟨cell_new w3 _ _ _ 4, cell_new w3 _ _ _ 5⟩
    | 3, _ => exact ⟨cell_new w3 _ _ _ 6, cell_new w3 _ _ _ 7⟩
    | 4, _ => exact ⟨cell_new w3 _ _ _ 8, cell_new w3 _ _ _ 9⟩
    | 5, _ => exact ⟨cell_new w3 _ _ _ 10, cell_new w3 _ _ _ 11⟩
    | 6, _ => exact ⟨cell_new w3 _ _ _ 12, cell_new w3 _ _ _ 13⟩
    | i + 7, hi => exact absurd hi (by omega)
  case round =>
    clear s1 hB4 hB3 c0 d0 d48 d53 e3 hbE
    obtain ⟨j, hj, rfl, hB, s1, hrs, hE⟩ := hrel
    by_cases hlt : j < 7
    · have a1 : decide ((j : Int) < 7) = true := by simp; omega
      obtain ⟨k0, k1⟩ := hE j hlt
      have hk108 : kAt j ≤ 108 := kAt_le j hlt
      obtain ⟨k, hkk⟩ : ∃ k, kAt j = k := ⟨_, rfl⟩
      rw [hkk] at k0 k1 hk108
      obtain ⟨ec, em⟩ := ex_code k hk108
      obtain ⟨ed, en⟩ := ex_rd1 (doN [9] k (encL [1, 2, 3])) (by rw [doN_len]; exact ex_len)
      obtain ⟨ck, hck⟩ : ∃ c, exC k = c := ⟨_, rfl⟩
      rw [hck] at k1 ec
      have hC : ∀ W g d, Rws W (some ⟨b0, o0, none⟩) rss → Ops W (some ⟨g, 0, none⟩) [exO (some ⟨d, 0, none⟩) 1 [9]] → Calls Try.prog 16 #[.agg #[.slice (some ⟨b0, o0, none⟩) 2 cs], .slice (some ⟨g, 0, none⟩) 1 1, .int .i64 0, .int .i64 (k : Int)] W (ErrOf [doN [9] k (encL [1, 2, 3]), erasedL] 0 W) := fun W g d h1 h2 => by
        have := cut_any (some ⟨b0, o0, none⟩) rss cs (some ⟨g, 0, none⟩) [exO (some ⟨d, 0, none⟩) 1 [9]] 1 0 (k : Int) W h1 (by have := HL2.out; omega) (fun r hr => by
          have h54 : All54 (rss.map (·.l)) := by rw [HML.out]; exact ((vldS_iff _).1 (ex_vldS _ ex_len)).2
          have := h54 r.l (List.mem_map_of_mem hr); omega) h2 (fun h => by cases h) (by simp) ⟨by simp, by decide⟩
        rw [HML.out, ex_cutOk _ _ k hk108, if_pos rfl, if_pos rfl, Int.toNat_natCast, show (0 : Int).toNat = 0 from rfl, ex_cut, HL2.out] at this
        exact this
      obtain ⟨sk, hsk⟩ : ∃ s, [doN [9] k (encL [1, 2, 3]), erasedL] = s := ⟨_, rfl⟩
      rw [hsk] at hC ec em ed en
      obtain ⟨mk, hmk⟩ : ∃ m, exM k = m := ⟨_, rfl⟩
      rw [hmk] at em
      have HCT := Lib.hid hC
      have HEC := Lib.hid ec
      have HEM := Lib.hid em
      have HED := Lib.hid ed
      have HEN := Lib.hid en
      have HMK := Lib.hid hmk
      have HCK := Lib.hid hck
      have hsk2 : sk.length = 2 := by rw [← hsk]; rfl
      have hz1 : b1 < wr.heap.size := World.block_lt_of_cell? _ _ s1
      have HE0 := Lib.hid hE
      clear hkk hC ec em ed en hck hmk hsk hE
      go_wp2_with fail
      refine (HCT.out _ (wr.heap.size + 1 + 1) (wr.heap.size + 1) (hrs.later (al (al (al (Below.refl _ _) _) _) _)) (ops_ex (d := [9]) rfl (by go_simp) (by go_simp) (by go_simp) ((bts_new' (wr.heap.size + 1) _ [9] _ _ (by simp)).later (al (Below.refl _ _) _)) (fun h => by cases h) (by decide))).mono ?_
      rintro e v1 ⟨xt, ct, rst, rfl, hot, hmt, hb⟩
      have hB1 := thru (al (al (al hB _) _) _) hb
      have n0 := later (a := ⟨wr.heap.size, 0, none⟩) (v := .int .i64 (k : Int)) hb (later (al (al (Below.refl _ _) _) _) (by go_simp))
      have n1 := later (a := ⟨wr.heap.size, 1, none⟩) (v := .int .i64 ck) hb (later (al (al (Below.refl _ _) _) _) (by go_simp))
      have hq := thru (al (al (al (Below.refl _ wr) _) _) _) hb
      have hlt2 : rst.length = 2 := by have h := congrArg List.length hmt; rw [List.length_map, hsk2] at h; exact h
      have hrt := hot.rws
      have hRD : ∀ i W, Rws W xt rst → Calls Try.prog 13 #[.agg #[.slice xt 2 ct], .int .i64 i] W (ReadOf sk i W) := fun i W h => by
        have := read_any xt rst ct i W h (by omega)
        rwa [hlt2, hmt] at this
      have HRD := Lib.hid hRD
      rw [hlt2]
      clear hb hot hmt hRD hlt2 k0 k1
      go_wp2_with fail
      refine (HRD.out 0 _ (hrt.later (al (Below.refl _ _) _))).mono ?_
      rintro e v2 ⟨y1, cy1, rfl, ho1, hb⟩
      rw [HEM.out] at ho1
      rw [HEM.out, HEC.out]
      have hB2 := thru (al hB1 _) hb
      replace n0 := later hb (later (al (Below.refl _ _) _) n0)
      replace n1 := later hb (later (al (Below.refl _ _) _) n1)
      have n2 := later (a := ⟨v1.heap.size, 0, none⟩) (v := .slice xt 2 ct) hb (by go_simp)
      replace hrt := (hrt.later (al (Below.refl _ _) _)).later hb
      replace hq := thru (al hq _) hb
      have hy1 := ho1.bts
      clear hb ho1
      go_wp2_with fail
      refine (HRD.out 1 _ hrt).mono ?_
      rintro e v3 ⟨y2, cy2, rfl, ho2, hb⟩
      rw [HEN.out, HED.out]
      have hB3 := thru hB2 hb
      replace n0 := later hb n0
      replace n1 := later hb n1
      replace hq := thru hq hb
      replace hy1 := hy1.later hb
      replace s1 := later hq s1
      replace hrs := hrs.later hq
      have HE : Hid (∀ i, i < 7 → v3.cell? ⟨bE, i * 2, none⟩ = some (.int .i64 (kAt i : Int)) ∧ v3.cell? ⟨bE, i * 2 + 1, none⟩ = some (.int .i64 (exC (kAt i)))) := fun i hi => ⟨later hq (HE0.out i hi).1, later hq (HE0.out i hi).2⟩
      clear hb ho2 n2 hrt HRD HCT HE0
      by_cases hk0 : k = 0
      · have hm3 : mk = [1, 2, 3] := by rw [← HMK.out, hk0]; rfl
        subst hk0
        subst hm3
        go_wp2_with fail
        exact ⟨⟨j + 1, by omega, by go_num, hB3, s1, hrs, HE.out⟩, by simp [intOf]; omega⟩
      · have z0 : ((k : Int) == 0) = false := by rw [beq_eq_false_iff_ne]; omega
        by_cases hk1 : k = 108
        · have hm9 : mk = [9] := by rw [← HMK.out, hk1]; rfl
          subst hk1
          subst hm9
          have e9 : (Go.convert 25 9 (.slice y1 1 cy1)).run Try.prog v3 = .ok (.string ⟨#[9]⟩) v3 := run_conv (P := Try.prog) (src := 25) (e := 5) (dst := 9) Try.underlying25 Try.underlying5 Try.underlying9 hy1 cy1
          go_wp2_with fail
          exact ⟨⟨j + 1, by omega, by go_num, hB3, s1, hrs, HE.out⟩, by simp [intOf]; omega⟩
        · have z1 : ((k : Int) == 108) = false := by rw [beq_eq_false_iff_ne]; omega
          clear hk0 hk1
          go_wp2_with fail
          exact ⟨⟨j + 1, by omega, by go_num, hB3, s1, hrs, HE.out⟩, by simp [intOf]; omega⟩
    · obtain rfl : j = 7 := by omega
      go_wp2_with fail
      go_ret
      exact ⟨rfl, hB⟩

end Go.Proofs.Ytgibfagnfhgelaa
