/- The reference of the block layer: Cut, Run. -/
import Derived.Test.YtgibfagnfhgelaaRefBc
import Derived.Test.YtgibfagnfhgelaaPureRn
import Derived.Test.YtgibfagnfhgelaaBlkI
import Derived.Test.YtgibfagnfhgelaaBlkL
import Derived.Test.YtgibfagnfhgelaaWrgA
import Derived.Deep.RegionWith
import Derived.Deep.DeepAppendWide
namespace Go.Proofs.Ytgibfagnfhgelaa
open Go.RowKit

section
variable {w : World} {o : Oper} {a : Act} {Q : Exit → Act → World → Prop}
theorem wp_appRt {K : Act → World → Prop} (s x : Operand) (ho : o.op = .call { callee := .builtin .append, args := #[s, x], argTypes := #[22, 22] })
    {B : Nat} {xa : Option Addr} {cap : Nat} (hown : OwnsR B w xa cap []) (hs : a.eval s = .slice xa 0 cap)
    {b q m c : Nat} {rs : List Rw} (hx : a.eval x = .slice (some ⟨b, q, none⟩) m c) (hm : rs.length = m) (hy : CellsR w (some ⟨b, q, none⟩) rs) (hl : m ≤ 100000) (hB : B ≤ w.heap.size)
    (h : ∀ x' cap' w', OwnsR B w' x' cap' rs → Below B w w' → Turns (RowOf xa) w w' → K (a.put o.dst (.slice x' m cap')) w') : o.wp Try.prog a w K Q := by
  subst hm
  obtain ⟨i0, hi, hz0, hz1, hz2⟩ := info_parts infoSl
  refine wp_append_own_wide w s x 22 ho B 25 i0 (.slice none 0 0) 1 24 Try.underlying22 hi hz0 hz1 hz2 rfl (by decide) _ 0 [] hs hown ⟨b, q, none⟩ rs.length c (rs.map encR) hx (by simp) (fun j v hj => by
    rcases hy with h | ⟨b', o', hx', hc⟩
    · subst h; simp at hj
    · cases hx'
      have hjl : j < rs.length := by
        rcases Nat.lt_or_ge j rs.length with h | h
        · exact h
        · simp [List.getElem?_eq_none h] at hj
      have hplain : (⟨b, q, none⟩ : Addr).add j = ⟨b, q + j, none⟩ := by unfold Addr.add; split <;> simp_all
      rw [hplain, hc j hjl]
      simp [List.getElem?_eq_getElem hjl] at hj
      simp [List.getElem?_eq_getElem hjl, hj]) (by intro v hv; simp at hv; obtain ⟨r, _, rfl⟩ := hv; rfl) (by unfold maxLen; omega) (by omega) hB (fun v' w' h1 h2 _ => ?_)
  obtain ⟨x', cap', rfl⟩ := owns_form h1
  have e0 : 0 + rs.length = rs.length := Nat.zero_add _
  rw [e0, List.nil_append] at h1
  rw [e0]
  refine h x' cap' w' h1 ((Below.refl _ w).grown h2 hB (fun k e => ?_)) (Turns.of_grownBy h2 (fun b e => ?_))
  · exact (OwnsR.low hown k (by unfold RowOf; cases xa <;> exact e)).1
  · unfold RowOf; cases xa <;> exact e
end

section
variable {w : World} {o : Oper} {a : Act} {Q : Exit → Act → World → Prop}
theorem wpList_appRt {ops : Array Oper} {rest : List Oper} (hg : o.guard = none) (s x : Operand) (ho : o.op = .call { callee := .builtin .append, args := #[s, x], argTypes := #[22, 22] })
    {B : Nat} {xa : Option Addr} {cap : Nat} (hown : OwnsR B w xa cap []) (hs : a.eval s = .slice xa 0 cap)
    {b q m c : Nat} {rs : List Rw} (hx : a.eval x = .slice (some ⟨b, q, none⟩) m c) (hm : rs.length = m) (hy : CellsR w (some ⟨b, q, none⟩) rs) (hl : m ≤ 100000) (hB : B ≤ w.heap.size)
    (h : ∀ x' cap' w', OwnsR B w' x' cap' rs → Below B w w' → Turns (RowOf xa) w w' → wpList Try.prog ops Q rest (a.put o.dst (.slice x' m cap')) w') : wpList Try.prog ops Q (o :: rest) a w :=
  wpList_plain hg fun _ hK => wp_appRt s x ho hown hs hx hm hy hl hB fun x' cap' w' h1 h2 h3 => hK _ _ (h x' cap' w' h1 h2 h3)
end
theorem OwnsR.set {B : Nat} {w : World} {g cap : Nat} {rs : List Rw} (h : OwnsR B w (some ⟨g, 0, none⟩) cap rs) (i : Nat) (u : Rw) : OwnsR B (w.setCell ⟨g, i, none⟩ (.slice u.x u.l.length u.c)) (some ⟨g, 0, none⟩) cap (rs.set i u) := by
  have := (World.ownsRow.stored h i (encR u)).1
  rw [← List.map_set] at this
  unfold OwnsR
  rw [List.length_set]
  exact this
theorem OwnsR.free {B : Nat} {w : World} {g cap : Nat} {l : List Rw} (h : OwnsR B w (some ⟨g, 0, none⟩) cap l) (i : Nat) : w.frozen? ⟨g, i, none⟩ = false := World.ownsRow.frozenAt h i

def RwsOf (ls : List (List UInt8)) (w : World) (e : Ending) (w' : World) : Prop := ∃ x c rs, e = .returned (.slice x rs.length c) ∧ Rws w' x rs ∧ rs.map (·.l) = ls ∧ Below w.heap.size w w'
def cutJ (ls : List (List UInt8)) (os : List OpV) (n k j : Nat) : List (List UInt8) := if j ≤ n then runL ls (os.take j) else cutL ls os n k
theorem cutJ_step (ls : List (List UInt8)) (os : List OpV) (n k j : Nat) (hn : n < os.length) (hj : j ≤ n) : cutJ ls os n k (j + 1) = doOp (cutJ ls os n k j) (os.getD j op0) (if j = n then k else lenO (os.getD j op0).er) := by
  unfold cutJ
  rw [if_pos hj]
  by_cases h : j = n
  · subst h
    rw [if_neg (by omega), if_pos rfl]; rfl
  · rw [if_pos (by omega), if_neg h]
    exact runL_take ls os j (by omega)
theorem cutJ_len (ls : List (List UInt8)) (os : List OpV) (n k j : Nat) : (cutJ ls os n k j).length = ls.length := by
  unfold cutJ; split
  · exact runL_len _ _
  · exact cutL_len _ _ _ _
theorem cutJ_54 (ls : List (List UInt8)) (os : List OpV) (n k j : Nat) (h : All54 ls) : All54 (cutJ ls os n k j) := by
  unfold cutJ; split
  · exact h.runL _
  · exact (h.runL _).doOp _ _
def RCutRel (rs : List Rw) (os : List OpV) (n k : Nat) (w : World) (g co : Nat) (u10 : Value) (wr : World) : Prop :=
  ∃ (j : Nat) (rs' : List Rw), j ≤ n + 1 ∧ u10 = .int .i64 (j : Int) ∧ OwnsR w.heap.size wr (some ⟨g, 0, none⟩) co rs' ∧ (∀ r, r ∈ rs' → RwOk wr r ∧ ∀ b, RowOf r.x b → b ≠ g) ∧ rs'.map (·.l) = cutJ (rs.map (·.l)) os n k j ∧ Below w.heap.size w wr

def NormQ (R : Act → World → Prop) : Exit → Act → World → Prop
  | .normal, a, w => R a w
  | _, _, _ => False
theorem NormQ.mk {R : Act → World → Prop} {a : Act} {w : World} (h : R a w) : NormQ R .normal a w := h
/-- A cut that says nothing of the frame where the code panics. -/
theorem wp_cutN {P : Program} {c : Code} {Q : Exit → Act → World → Prop} {a : Act} {w : World} (R : Act → World → Prop) (h1 : c.wp P (NormQ R) a w) (h2 : ∀ a' w', R a' w' → Q .normal a' w') : c.wp P Q a w :=
  wp_mono h1 fun e a' w' h => by cases e <;> first | exact h2 _ _ h | exact h.elim
theorem ex_frame {p : (Nat → Value) → Act} {a : Act} (h : a = p (fun i => a.tmps.getD i undef)) : ∃ u, a = p u := ⟨_, h⟩
set_option maxRecDepth 20000 in
set_option maxHeartbeats 4000000 in
theorem refCut_any (x : Option Addr) (rs : List Rw) (c : Nat) (y : Option Addr) (os : List OpV) (cy : Nat) (n k : Nat) (w : World) (hs : Rws w x rs) (ho : Ops w y os) (hm : os.length ≤ 1000) (hv : vldO (rs.map (·.l)) os = true) (hno : n < os.length) (hk : k ≤ lenO (os.getD n op0).er) :
    Calls Try.prog 24 #[.slice x rs.length c, .slice y os.length cy, .int .i64 (n : Int), .int .i64 (k : Int)] w (RwsOf (cutL (rs.map (·.l)) os n k) w) := by
  have hB := Below.refl w.heap.size w
  obtain ⟨hvs, hvo⟩ := (vldO_iff _ _).1 hv
  obtain ⟨⟨hr1, hr64⟩, h54⟩ := (vldS_iff _).1 hvs
  rw [List.length_map] at hr1 hr64 hvo
  obtain ⟨bx, ox, rfl, -⟩ := hs.at 0 (by omega)
  have HVO := Lib.hid hvo
  have H54 := Lib.hid h54
  clear hvs hvo h54 hv
  go_enter Try.func24, Try.ntmps24
  go_wp2_with (at_builtin; (refine wpList_appRt rfl _ _ rfl (B := w.heap.size) (xa := some ⟨w.heap.size, 0, none⟩) (cap := 0) (OwnsR.whole w.heap.size w.heap.size w [] _ rfl (Nat.le_refl _) rfl (by simp)) rfl (b := bx) (q := ox) (m := rs.length) (rs := rs) rfl rfl (hs.later (al hB _)).1 (by omega) (by simp) ?_); intro xo co w1 hor hb ht; refine Hid.out ?_)
  unfold Hid
  obtain ⟨g, rfl⟩ := hor.some_of (by omega)
  obtain ⟨hg1, hg2⟩ := hor.low g rfl
  replace hB := (al hB _).trans hb
  have HOR := Lib.hid hor
  have HRS : Hid (∀ r, r ∈ rs → RwOk w1 r ∧ ∀ b, RowOf r.x b → b ≠ g) := fun r hr => ⟨(hs.2 r hr).later hB, fun b hb2 => by
    have hl := H54.out r.l (List.mem_map_of_mem hr)
    rcases (hs.2 r hr).1 with h1 | ⟨b', o', hx', hc'⟩
    · rw [h1] at hl; simp at hl
    · have h2 := World.block_lt_of_cell? _ _ (hc' 0 (by omega))
      rw [hx'] at hb2
      have h3 : b' = b := Option.some.inj hb2
      dsimp only at h2
      omega⟩
  have HB0 := Lib.hid hg1
  clear hor hb ht hg1 hg2
  go_wp2_with fail
  go_loopw [10, 11] (fun u10 _ wr => RCutRel rs os n k w g co u10 wr) (fun u10 _ _ => n + 1 - (intOf u10).toNat)
  case atStart => exact ⟨0, rs, by omega, rfl, HOR.out, HRS.out, rfl, hB⟩
  case round =>
    clear hB HOR HRS
    obtain ⟨j, rt, hj, rfl, hor, hrt, hmap, hB⟩ := hrel
    have hln : rt.length = rs.length := by have := congrArg List.length hmap; rwa [List.length_map, cutJ_len, List.length_map] at this
    by_cases hlt : j ≤ n
    · have d1 : decide ((j : Int) ≤ (n : Int)) = true := decide_eq_true (by omega)
      have d1n : decide (j ≤ n) = true := decide_eq_true hlt
      have hjo : j < os.length := by omega
      have jB : (j : Int) < (os.length : Int) := by omega
      obtain ⟨by_, oy, rfl, k0, k1, k2, hok⟩ := (ho.later hB).at j hjo
      have hbad := HVO.out _ (getD_mem os j op0 hjo)
      have hstep := cutJ_step (rs.map (·.l)) os n k j hno hlt
      have hkK : (if j = n then k else lenO (os.getD j op0).er) ≤ lenO (os.getD j op0).er := by
        split
        · rename_i h; rw [h]; exact hk
        · exact Nat.le_refl _
      obtain ⟨⟨blk, er, xd, cd, d⟩, hoj⟩ : ∃ r, os.getD j op0 = r := ⟨_, rfl⟩
      rw [hoj] at k0 k1 k2 hok hbad hstep hkK
      dsimp only at k0 k1 k2 hstep hkK
      obtain ⟨⟨hb0, hb1⟩, hd48, -⟩ := (badO_iff _ _).1 hbad
      dsimp only at hb0 hb1 hd48
      obtain ⟨bn, rfl⟩ : ∃ m : Nat, blk = (m : Int) := ⟨blk.toNat, by omega⟩
      have hbn : bn < rt.length := by omega
      have hcell := hor.cellsR
      obtain ⟨⟨xr, cr, l⟩, hr⟩ : ∃ r, rt.getD bn rw0 = r := ⟨_, rfl⟩
      have hmem := getD_mem rt bn rw0 hbn
      rw [hr] at hmem
      obtain ⟨⟨hbt, hxn, -, -⟩, hne⟩ := hrt _ hmem
      have hl54 : l.length = 54 := by
        have h1 := (cutJ_54 (rs.map (·.l)) os n k j H54.out).getD bn (by rw [cutJ_len, List.length_map]; omega)
        rw [← hmap, getD_map_l, hr] at h1
        exact h1
      have hgc : wr.cell? ⟨g, bn, none⟩ = some (.slice xr 54 cr) := by
        rcases hcell with h | ⟨b', o', hx, hc⟩
        · rw [h] at hbn; simp at hbn
        · cases hx
          have := hc bn hbn
          rw [hr, Nat.zero_add] at this
          rw [this]; unfold encR; rw [hl54]
      have hgf := hor.free bn
      dsimp only at hbt hxn
      have HDO : Hid (∀ K, K ≤ lenO er → ∀ W, Below wr.heap.size wr W → Calls Try.prog 39 #[.slice xr 54 cr, .agg #[.int .i64 (bn : Int), .bool er, .slice xd d.length cd], .int .i64 (K : Int)] W fun e w' => ∃ y cap, e = .returned (.slice y 54 cap) ∧ OwnsB W.heap.size w' y cap (doN d K l) ∧ Below W.heap.size W w') := fun K hK W hW =>
        refDo_any xr l cr ⟨(bn : Int), er, xd, cd, d⟩ K W (hbt.later hW) hxn hl54 (hok.later hW) hd48 hK
      have HST : Hid (∀ W, Calls Try.prog 23 #[.agg #[.int .i64 (bn : Int), .bool er, .slice xd d.length cd]] W fun e w' => e = .returned (.int .i64 (lenO er : Int)) ∧ Below W.heap.size W w') := fun W => refSteps_any ⟨(bn : Int), er, xd, cd, d⟩ W
      have jC : (bn : Int) < (rs.length : Int) := by omega
      have jC2 : bn < rs.length := by omega
      have hbt0 : (0 : Int) ≤ (bn : Int) := by omega
      have HOR := Lib.hid hor
      have HRT := Lib.hid hrt
      have HMAP := Lib.hid hmap
      have HSTEP := Lib.hid hstep
      have HR := Lib.hid hr
      have HL := Lib.hid hl54
      have HLN := Lib.hid hln
      clear hbad hoj hok hcell hr hmem hbt hxn hne hl54 hor hrt hmap hstep hln hd48 hb0 hb1
      go_wp2_with fail
      refine (HST.out _).mono ?_
      rintro e w2 ⟨rfl, hb⟩
      replace k0 := later hb k0
      replace k1 := later hb k1
      replace k2 := later hb k2
      replace hgf := (hb.frozen (p := ⟨g, bn, none⟩) (World.block_lt_of_cell? _ _ hgc)).trans hgf
      replace hgc := later hb hgc
      have hB2 := thru hB hb
      have HB2 := Lib.hid hb
      have hgz : g < w2.heap.size := World.block_lt_of_cell? _ _ hgc
      clear hb hB
      by_cases hjn : j = n
      · have q1 : ((j : Int) == (n : Int)) = true := by rw [beq_iff_eq]; omega
        have q1n : (j == n) = true := by rw [beq_iff_eq]; omega
        rw [if_pos hjn] at hkK HSTEP
        clear hjn
        go_wp2_with fail
        refine wp_cutN (fun a' w' => ∃ (yd : Option Addr) (capd : Nat) (w3 : World), OwnsB w2.heap.size w3 yd capd (doN d (k) l) ∧ Below w2.heap.size w2 w3 ∧ w' = w3.setCell ⟨g, bn, none⟩ (.slice yd 54 capd) ∧ ∃ u : Nat → Value, a' = { tmps := #[.slice (some ⟨bx, ox, none⟩) rs.length c, .slice (some ⟨by_, oy, none⟩) os.length cy, .int .i64 (n : Int), .int .i64 (k : Int), undef, undef, undef, undef, .slice none 0 0, .slice (some ⟨g, 0, none⟩) rs.length co, .int .i64 (j : Int), u 11, .slice (some ⟨w.heap.size, 0, none⟩) 0 0, .slice (some ⟨bx, ox, none⟩) rs.length c, .slice (some ⟨g, 0, none⟩) rs.length co, u 15, u 16, u 17, u 18, u 19, u 20, u 21, u 22, u 23, u 24, u 25, u 26, u 27, u 28, u 29, u 30, u 31, u 32, u 33, u 34, u 35, u 36, u 37, u 38, u 39, u 40, u 41, u 42, u 43, u 44, u 45, u 46, u 47, u 48, u 49, undef], defers := [] }) ?_ ?_
        · go_region_with (first | (go_at_call 39; refine (HDO.out (k) hkK _ ?_).mono ?_; exact HB2.out.drew; rintro e w3 ⟨yd, capd, rfl, hod, hb3⟩; have e0 := later hb3 (a := ⟨by_, oy + j * 3, none⟩) (v := .int .i64 (bn : Int)) (by go_simp); have e1 := later hb3 (a := ⟨g, bn, none⟩) (v := .slice xr 54 cr) (by go_simp); have e2 := (Below.frozen hb3 (p := ⟨g, bn, none⟩) (by simp <;> omega)).trans (show _ = false by go_simp)))
          all_goals (refine NormQ.mk ⟨yd, capd, w3, hod, thru (Below.refl _ w2).drew hb3, rfl, ex_frame (by kernel_rfl)⟩)
        rintro a' w4 ⟨yd, capd, w3, hod, hb3, rfl, u, rfl⟩
        have hBz := thru hB2 hb3
        have hg0 := HB0.out
        have hwr := HB2.out.trans (hb3.mono HB2.out.size)
        have hor2 := (HOR.out.turn (Turns.of_below hwr (Nat.le_refl _)) (fun _ _ h => h)).set bn ⟨yd, capd, doN d (k) l⟩
        dsimp only at hor2
        rw [doN_len, HL.out] at hor2
        have hrow : RwOk w3 ⟨yd, capd, doN d (k) l⟩ := hod.rwOk (r := ⟨yd, capd, doN d (k) l⟩)
        have hlowd : ∀ b, RowOf yd b → b ≠ g := fun b hb => by have := (hod.low b hb).1; omega
        have tS : Turns (fun b => b = g) w3 (w3.setCell ⟨g, bn, none⟩ (.slice yd 54 capd)) := (Turns.refl (fun b => b = g) w3).setCell (p := ⟨g, bn, none⟩) (fun _ => rfl) _
        have hrt2 : ∀ r, r ∈ rt.set bn ⟨yd, capd, doN d (k) l⟩ → RwOk (w3.setCell ⟨g, bn, none⟩ (.slice yd 54 capd)) r ∧ ∀ b, RowOf r.x b → b ≠ g := fun r hr => by
          have turnR : ∀ q : Rw, RwOk w3 q → (∀ b, RowOf q.x b → b ≠ g) → RwOk (w3.setCell ⟨g, bn, none⟩ (.slice yd 54 capd)) q := fun q h1 h2 => ⟨h1.1.turn tS (fun a e h3 => h2 _ (by unfold RowOf; rw [e]; rfl) h3), h1.2⟩
          rcases List.mem_or_eq_of_mem_set hr with h | h
          · exact ⟨turnR r ((HRT.out r h).1.later hwr) (HRT.out r h).2, (HRT.out r h).2⟩
          · subst h; exact ⟨turnR _ hrow hlowd, hlowd⟩
        have hmap2 : (rt.set bn ⟨yd, capd, doN d (k) l⟩).map (·.l) = cutJ (rs.map (·.l)) os n k (j + 1) := by
          rw [HSTEP.out, map_set_l, HMAP.out]
          unfold doOp
          dsimp only
          rw [Int.toNat_natCast, ← HMAP.out, getD_map_l, HR.out]
        have hB4 := hBz.setCell (p := ⟨g, bn, none⟩) hg0 (.slice yd 54 capd)
        clear hBz hwr hrow hlowd tS hb3 hod
        go_wp2_with fail
        exact ⟨⟨j + 1, _, by omega, by go_num, hor2, hrt2, hmap2, hB4⟩, by simp [intOf]; omega⟩
      · have q1 : ((j : Int) == (n : Int)) = false := by rw [beq_eq_false_iff_ne]; omega
        have q1n : (j == n) = false := by rw [beq_eq_false_iff_ne]; omega
        rw [if_neg hjn] at hkK HSTEP
        clear hjn
        go_wp2_with fail
        refine wp_cutN (fun a' w' => ∃ (yd : Option Addr) (capd : Nat) (w3 : World), OwnsB w2.heap.size w3 yd capd (doN d (lenO er) l) ∧ Below w2.heap.size w2 w3 ∧ w' = w3.setCell ⟨g, bn, none⟩ (.slice yd 54 capd) ∧ ∃ u : Nat → Value, a' = { tmps := #[.slice (some ⟨bx, ox, none⟩) rs.length c, .slice (some ⟨by_, oy, none⟩) os.length cy, .int .i64 (n : Int), .int .i64 (k : Int), undef, undef, undef, undef, .slice none 0 0, .slice (some ⟨g, 0, none⟩) rs.length co, .int .i64 (j : Int), u 11, .slice (some ⟨w.heap.size, 0, none⟩) 0 0, .slice (some ⟨bx, ox, none⟩) rs.length c, .slice (some ⟨g, 0, none⟩) rs.length co, u 15, u 16, u 17, u 18, u 19, u 20, u 21, u 22, u 23, u 24, u 25, u 26, u 27, u 28, u 29, u 30, u 31, u 32, u 33, u 34, u 35, u 36, u 37, u 38, u 39, u 40, u 41, u 42, u 43, u 44, u 45, u 46, u 47, u 48, u 49, undef], defers := [] }) ?_ ?_
        · go_region_with (first | (go_at_call 39; refine (HDO.out (lenO er) hkK _ ?_).mono ?_; exact HB2.out.drew; rintro e w3 ⟨yd, capd, rfl, hod, hb3⟩; have e0 := later hb3 (a := ⟨by_, oy + j * 3, none⟩) (v := .int .i64 (bn : Int)) (by go_simp); have e1 := later hb3 (a := ⟨g, bn, none⟩) (v := .slice xr 54 cr) (by go_simp); have e2 := (Below.frozen hb3 (p := ⟨g, bn, none⟩) (by simp <;> omega)).trans (show _ = false by go_simp)))
          all_goals (refine NormQ.mk ⟨yd, capd, w3, hod, thru (Below.refl _ w2).drew hb3, rfl, ex_frame (by kernel_rfl)⟩)
        rintro a' w4 ⟨yd, capd, w3, hod, hb3, rfl, u, rfl⟩
        have hBz := thru hB2 hb3
        have hg0 := HB0.out
        have hwr := HB2.out.trans (hb3.mono HB2.out.size)
        have hor2 := (HOR.out.turn (Turns.of_below hwr (Nat.le_refl _)) (fun _ _ h => h)).set bn ⟨yd, capd, doN d (lenO er) l⟩
        dsimp only at hor2
        rw [doN_len, HL.out] at hor2
        have hrow : RwOk w3 ⟨yd, capd, doN d (lenO er) l⟩ := hod.rwOk (r := ⟨yd, capd, doN d (lenO er) l⟩)
        have hlowd : ∀ b, RowOf yd b → b ≠ g := fun b hb => by have := (hod.low b hb).1; omega
        have tS : Turns (fun b => b = g) w3 (w3.setCell ⟨g, bn, none⟩ (.slice yd 54 capd)) := (Turns.refl (fun b => b = g) w3).setCell (p := ⟨g, bn, none⟩) (fun _ => rfl) _
        have hrt2 : ∀ r, r ∈ rt.set bn ⟨yd, capd, doN d (lenO er) l⟩ → RwOk (w3.setCell ⟨g, bn, none⟩ (.slice yd 54 capd)) r ∧ ∀ b, RowOf r.x b → b ≠ g := fun r hr => by
          have turnR : ∀ q : Rw, RwOk w3 q → (∀ b, RowOf q.x b → b ≠ g) → RwOk (w3.setCell ⟨g, bn, none⟩ (.slice yd 54 capd)) q := fun q h1 h2 => ⟨h1.1.turn tS (fun a e h3 => h2 _ (by unfold RowOf; rw [e]; rfl) h3), h1.2⟩
          rcases List.mem_or_eq_of_mem_set hr with h | h
          · exact ⟨turnR r ((HRT.out r h).1.later hwr) (HRT.out r h).2, (HRT.out r h).2⟩
          · subst h; exact ⟨turnR _ hrow hlowd, hlowd⟩
        have hmap2 : (rt.set bn ⟨yd, capd, doN d (lenO er) l⟩).map (·.l) = cutJ (rs.map (·.l)) os n k (j + 1) := by
          rw [HSTEP.out, map_set_l, HMAP.out]
          unfold doOp
          dsimp only
          rw [Int.toNat_natCast, ← HMAP.out, getD_map_l, HR.out]
        have hB4 := hBz.setCell (p := ⟨g, bn, none⟩) hg0 (.slice yd 54 capd)
        clear hBz hwr hrow hlowd tS hb3 hod
        go_wp2_with fail
        exact ⟨⟨j + 1, _, by omega, by go_num, hor2, hrt2, hmap2, hB4⟩, by simp [intOf]; omega⟩
    · obtain rfl : j = n + 1 := by omega
      have d1 : decide (((n + 1 : Nat) : Int) ≤ (n : Int)) = false := decide_eq_false (by omega)
      have d2 : decide ((n : Int) + 1 ≤ (n : Int)) = false := decide_eq_false (by omega)
      have d1n : decide (n + 1 ≤ n) = false := decide_eq_false (by omega)
      have HM : Hid (rt.map (·.l) = cutL (rs.map (·.l)) os n k) := by
        show _ = _
        rw [hmap]; unfold cutJ; rw [if_neg (by omega)]
      have HR2 : Hid (Rws wr (some ⟨g, 0, none⟩) rt) := ⟨hor.cellsR, fun r hr => (hrt r hr).1⟩
      clear hmap hor hrt
      rw [← hln]
      go_wp2_with fail
      go_ret
      exact ⟨some ⟨g, 0, none⟩, co, rt, by rw [hln]; rfl, HR2.out, HM.out, hB⟩

end Go.Proofs.Ytgibfagnfhgelaa
