/- BlockWrong, way 1. -/
import Derived.Test.YtgibfagnfhgelaaWrgA
import Derived.Test.YtgibfagnfhgelaaFill
import Derived.Deep.DeepAppendWide
import Derived.BigQuiet
namespace Go.Proofs.Ytgibfagnfhgelaa
open Go.RowKit

section
variable {w : World} {o : Oper} {a : Act} {Q : Exit → Act → World → Prop}
theorem wp_appRs {K : Act → World → Prop} (s x : Operand) (ho : o.op = .call { callee := .builtin .append, args := #[s, x], argTypes := #[22, 22] })
    {B : Nat} {xa : Option Addr} {cap : Nat} (hown : OwnsR B w xa cap []) (hs : a.eval s = .slice xa 0 cap)
    {b q m c : Nat} {rs : List Rw} (hx : a.eval x = .slice (some ⟨b, q, none⟩) m c) (hm : rs.length = m) (hy : CellsR w (some ⟨b, q, none⟩) rs) (hl : m ≤ 100000) (hB : B ≤ w.heap.size)
    (h : ∀ x' cap' w', OwnsR B w' x' cap' rs → Below B w w' → Turns (RowOf xa) w w' → K (a.put o.dst (.slice x' m cap')) w') : o.wp Try.prog a w K Q := by
  subst hm
  obtain ⟨i0, hi, hz0, hz1, hz2⟩ := info_parts infoSl
  refine wp_append_own_wide w s x 22 ho B 25 i0 (.slice none 0 0) 1 24 Try.underlying22 hi hz0 hz1 hz2 rfl (by decide) _ 0 [] hs hown ⟨b, q, none⟩ rs.length c (rs.map encR) hx (by simp) (fun j v hj => by
    rcases hy with h | ⟨b', o', hx', hc⟩
    · subst h; simp at hj
    · cases hx'
      have hjl : j < rs.length := by
        rcases Nat.lt_or_ge j rs.length with h | h
        · exact h
        · simp [List.getElem?_eq_none h] at hj
      have hplain : (⟨b, q, none⟩ : Addr).add j = ⟨b, q + j, none⟩ := by unfold Addr.add; split <;> simp_all
      rw [hplain, hc j hjl]
      simp [List.getElem?_eq_getElem hjl] at hj
      simp [List.getElem?_eq_getElem hjl, hj]) (by intro v hv; simp at hv; obtain ⟨r, _, rfl⟩ := hv; rfl) (by unfold maxLen; omega) (by omega) hB (fun v' w' h1 h2 _ => ?_)
  obtain ⟨x', cap', rfl⟩ := owns_form h1
  have e0 : 0 + rs.length = rs.length := Nat.zero_add _
  rw [e0, List.nil_append] at h1
  rw [e0]
  refine h x' cap' w' h1 ((Below.refl _ w).grown h2 hB (fun k e => ?_)) (Turns.of_grownBy h2 (fun b e => ?_))
  · exact (OwnsR.low hown k (by unfold RowOf; cases xa <;> exact e)).1
  · unfold RowOf; cases xa <;> exact e
end

set_option maxRecDepth 20000 in
set_option maxHeartbeats 4000000 in
theorem wrong_1 (way : UInt8) (i : Int) (w : World) (hi : -9223372036854775808 ≤ i ∧ i ≤ 9223372036854775807) (hw1 : (way.toNat : Int) % 6 = 1) : Calls Try.prog 8 #[.int .u8 (way.toNat : Int), .int .i64 i] w (YesOf w) := by
  have hz5 : ∀ W : World, (Instr.makeSlice 25 (.int .i64 53) (.int .i64 53)).run Try.prog W = .ok (.slice (some ⟨W.heap.size, 0, none⟩) 53 53) (W.alloc (.cells (zeroB 53) 5)) := fun W => run_zeros 53 (by decide) W
  have hw2 : (way.toNat : Int).tmod 6 = 1 := by rw [Int.tmod_eq_emod_of_nonneg (by omega)]; exact hw1
  have hB := Below.refl w.heap.size w
  obtain ⟨mi, hmi⟩ : ∃ m, (if (-1 : Int) < i then (-1 : Int) else i) = m := ⟨_, rfl⟩
  obtain ⟨ma, hma⟩ : ∃ m, (if (3 : Int) > i then (3 : Int) else i) = m := ⟨_, rfl⟩
  obtain ⟨mb, hmb⟩ : ∃ m, (if (65 : Int) > i then (65 : Int) else i) = m := ⟨_, rfl⟩
  have hmin : ∀ (ts : Array TypeId) (t : TypeId) (W : World), (Builtin.min_ ts t #[.int .i64 i, .int .i64 (-1)]).run Try.prog W = .ok (.int .i64 mi) W := fun ts t W => by rw [← hmi]; simp [Builtin.min_, Builtin.min2]
  have hmax : ∀ (ts : Array TypeId) (t : TypeId) (W : World), (Builtin.max_ ts t #[.int .i64 i, .int .i64 3]).run Try.prog W = .ok (.int .i64 ma) W := fun ts t W => by rw [← hma]; simp [Builtin.max_, Builtin.max2]
  have hmax2 : ∀ (ts : Array TypeId) (t : TypeId) (W : World), (Builtin.max_ ts t #[.int .i64 i, .int .i64 65]).run Try.prog W = .ok (.int .i64 mb) W := fun ts t W => by rw [← hmb]; simp [Builtin.max_, Builtin.max2]
  have hmi0 : mi < 0 := by rw [← hmi]; split <;> omega
  have hma3 : 3 ≤ ma := by rw [← hma]; split <;> omega
  have hmb65 : 64 < mb := by rw [← hmb]; split <;> omega
  have hmir : -9223372036854775808 ≤ mi := by rw [← hmi]; split <;> omega
  have hmar : ma ≤ 9223372036854775807 := by rw [← hma]; split <;> omega
  clear hmi hma hmb
  go_enter Try.func8, Try.ntmps8
  go_wp2_with fail
  refine (new_yes 3 _ (by decide)).mono ?_
  rintro e w1 ⟨xs, cs, rs, rfl, hrl, hon, hb⟩
  have hB1 := thru hB hb
  have hls : rs.map (·.l) = threeE := by rw [hon.ls, hrl]; rfl
  have hrs := hon.rws
  rw [hrl]
  clear hb hon hB
  have hlen3 : ∀ l, l ∈ rs.map (·.l) → l.length ≤ 100000 := fun l hl => by
    rw [hls] at hl
    have : l = erasedL := by simpa [threeE] using hl
    rw [this, erasedL_len]; decide
  have HCN := Lib.hid (cut_nil xs rs cs 3 hrl (by decide) hlen3)
  have HRN := Lib.hid (run_nil xs rs cs 3 hrl (by decide) hlen3 (by rw [hls]; exact three_v))
  have HC0 := Lib.hid (cut_bad xs rs cs 3 ⟨0, false, none, 0, []⟩ 0 (-1) hrl (by decide) hlen3 (by unfold cutOk; simp))
  have HSS := Lib.hid (same_yes xs rs cs 3 hrl (by decide))
  have HR1 := Lib.hid (read_bad xs rs cs 3 mi hrl (by decide) (.inl hmi0))
  have HR2 := Lib.hid (read_bad xs rs cs 3 ma hrl (by decide) (.inr hma3))
  have HNW := Lib.hid (fun W => new_no mb W (.inr hmb65))
  have HRL := Lib.hid hrl
  have HLS := Lib.hid hls
  have HL3 := Lib.hid hlen3
  clear hrl hls hlen3 hmb65
  go_wp2_with fail
  obtain ⟨X1, hX1⟩ : ∃ X, w1.alloc (.cells #[.slice xs 3 cs] 24) = X := ⟨_, rfl⟩
  have e1 : w1.heap.size + 1 = X1.heap.size := by rw [← hX1]; simp
  have u5 : X1.cell? ⟨w1.heap.size, 0, none⟩ = some (.slice xs 3 cs) := by rw [← hX1]; exact cell_new w1 _ _ _ 0
  have t1 : Below w1.heap.size w1 X1 := by rw [← hX1]; exact al (Below.refl _ _) _
  rw [e1, hX1]
  obtain ⟨X2, hX2⟩ : ∃ X, X1.alloc (.cells #[.int .u8 5] 5) = X := ⟨_, rfl⟩
  have e2 : X1.heap.size + 1 = X2.heap.size := by rw [← hX2]; simp
  have uD : Bts X2 (some ⟨X1.heap.size, 0, none⟩) [5] := by rw [← hX2]; exact bts_new X1 [5] _ _
  have t2 : Below X1.heap.size X1 X2 := by rw [← hX2]; exact al (Below.refl _ _) _
  rw [e2, hX2]
  obtain ⟨X3, hX3⟩ : ∃ X, X2.alloc (.cells #[.slice xs 3 cs] 24) = X := ⟨_, rfl⟩
  have e3 : X2.heap.size + 1 = X3.heap.size := by rw [← hX3]; simp
  have u7 : X3.cell? ⟨X2.heap.size, 0, none⟩ = some (.slice xs 3 cs) := by rw [← hX3]; exact cell_new X2 _ _ _ 0
  have t3 : Below X2.heap.size X2 X3 := by rw [← hX3]; exact al (Below.refl _ _) _
  rw [e3, hX3]
  obtain ⟨V, hV⟩ : ∃ X, X3.alloc (.cells #[.int .i64 1, .bool false, .slice (some ⟨X1.heap.size, 0, none⟩) 1 1] 31) = X := ⟨_, rfl⟩
  have e4 : X3.heap.size + 1 = V.heap.size := by rw [← hV]; simp
  have n80 : V.cell? ⟨X3.heap.size, 0, none⟩ = some (.int .i64 1) := by rw [← hV]; exact cell_new X3 _ _ _ 0
  have n81 : V.cell? ⟨X3.heap.size, 1, none⟩ = some (.bool false) := by rw [← hV]; exact cell_new X3 _ _ _ 1
  have n82 : V.cell? ⟨X3.heap.size, 2, none⟩ = some (.slice (some ⟨X1.heap.size, 0, none⟩) 1 1) := by rw [← hV]; exact cell_new X3 _ _ _ 2
  have t4 : Below X3.heap.size X3 V := by rw [← hV]; exact al (Below.refl _ _) _
  rw [hV]
  have n5 := later t4 (later t3 (later t2 u5))
  have n7 := later t4 u7
  have uDV := (uD.later t3).later t4
  have hBV := thru (thru (thru (thru hB1 t1) t2) t3) t4
  have hrsV := (((hrs.later t1).later t2).later t3).later t4
  obtain ⟨b5, hb5⟩ : ∃ b, w1.heap.size = b := ⟨_, rfl⟩
  obtain ⟨bD, hbD⟩ : ∃ b, X1.heap.size = b := ⟨_, rfl⟩
  obtain ⟨b7, hb7⟩ : ∃ b, X2.heap.size = b := ⟨_, rfl⟩
  obtain ⟨b8, hb8⟩ : ∃ b, X3.heap.size = b := ⟨_, rfl⟩
  rw [hb5] at n5 ⊢
  rw [hbD] at n82 uDV ⊢
  rw [hb7] at n7 ⊢
  rw [hb8] at n80 n81 n82 ⊢
  have hw1V : Below w1.heap.size w1 V := thru (thru (thru t1 t2) t3) t4
  have f7 : V.frozen? ⟨X2.heap.size, 0, none⟩ = false := (Below.frozen t4 (p := ⟨X2.heap.size, 0, none⟩) (by simp; omega)).trans (by rw [← hX3]; exact frozen_new X2 _ _ 0)
  rw [hb7] at f7
  have s57 : w1.heap.size ≤ b5 ∧ b5 < bD ∧ bD < b7 ∧ b7 < b8 ∧ b8 < V.heap.size := by omega
  have hrs1 := hrs
  clear e1 e2 e3 e4 hX1 hX2 hX3 hV t1 t2 t3 t4 u5 u7 uD hrs hb5 hbD hb7 hb8
  have hok : OpOk V ⟨1, false, some ⟨bD, 0, none⟩, 1, [5]⟩ := ⟨uDV, (fun h => by cases h), by simp, by simp, (show (-9223372036854775808 : Int) ≤ 1 by decide), (show (1 : Int) ≤ 9223372036854775807 by decide)⟩
  clear uDV

  have hrs0 := hrsV
  clear hrsV
  have HL4 : Hid (∀ bz : Nat, (rs ++ [(⟨some ⟨bz, 0, none⟩, 53, List.replicate 53 0⟩ : Rw)]).length = 4) := fun bz => by rw [List.length_append, HRL.out]; rfl
  have hgs : ∃ gs qs, xs = some ⟨gs, qs, none⟩ := by
    rcases hrs0.1 with h | ⟨b, o, h, _⟩
    · have := HRL.out; rw [h] at this; cases this
    · exact ⟨b, o, h⟩
  obtain ⟨gs, qs, rfl⟩ := hgs
  refine wp_region_schedB (B := b7) (fun X => Below V.heap.size V X) (.two [1, 2] 0 (.two [] 3 (.one [] 4 (.one [] 5 (.one [] 6 (.one [7] 8 (.done []))))) 4 (.two [] 3 (.one [] 5 (.one [] 6 (.one [7] 8 (.done [])))) 5 (.one [] 3 (.one [] 6 (.one [7] 8 (.done [])))))) 4 (.two [] 0 (.two [] 3 (.one [] 5 (.one [] 6 (.one [7] 8 (.done [])))) 5 (.one [] 3 (.one [] 6 (.one [7] 8 (.done []))))) 5 (.one [] 0 (.one [] 3 (.one [] 6 (.one [7] 8 (.done []))))))) (by kernel_rfl) (by kernel_rfl) (fun _ _ _ _ _ h => h) (Below.refl _ _).drew ?_
  intro X tV0
  have zX : V.heap.size ≤ X.heap.size := tV0.size
  have k5 := plusB_cell (B := b7) (later tV0 n5) (by simp; omega)
  rw [wpSchedB]
  simp only [pick, List.map_cons, List.map_nil, Array.getD_eq_getD_getElem?, List.getElem?_toArray, List.getElem?_cons_succ, List.getElem?_cons_zero, Option.getD_some]
  repeat (first | go_big_quiet_step (fail) | quiet_step (fail))
  refine wpQuiet_nil ?_
  clear k5
  refine ⟨?_, ?_⟩
  · refine heavyB_want (by rfl) (fun K' hK' => ?_)
    go_simp
    refine hK' _ _ ((Below.refl _ _).alloc (by omega) _) ?_
    clear hK' K'
    obtain ⟨Y1, hY1⟩ : ∃ Y, X.alloc (.cells #[] 25) = Y := ⟨_, rfl⟩
    have hq : Below X.heap.size X Y1 := by rw [← hY1]; exact al (Below.refl _ _) _
    replace tV0 : Below V.heap.size V Y1 := by rw [← hY1]; exact tV0.alloc zX _
    have hsz : X.heap.size + 1 = Y1.heap.size := by rw [← hY1]; simp
    have hrow : OwnsR V.heap.size Y1 (some ⟨X.heap.size, 0, none⟩) 0 [] := by rw [← hY1]; exact OwnsR.whole _ _ _ [] _ rfl (by omega) rfl (by simp)
    rw [hY1]
    clear hY1 hq
    obtain ⟨b0r, eb0r⟩ : ∃ b, X.heap.size = b := ⟨_, rfl⟩
    rw [eb0r]
    rw [eb0r] at hrow
    have gb0r : V.heap.size ≤ b0r := by omega
    have lb0r : b0r < Y1.heap.size := by omega
    replace zX : V.heap.size ≤ Y1.heap.size := by omega
    clear eb0r hsz
    try simp only [Act.put, List.setIfInBounds_toArray, List.set_cons_zero, List.set_cons_succ]
    rw [wpSchedB]
    simp only [pick, List.map_nil, Array.getD_eq_getD_getElem?, List.getElem?_toArray, List.getElem?_cons_succ, List.getElem?_cons_zero, Option.getD_some]
    refine wpQuiet_nil ?_
    refine ⟨?_, ?_⟩
    · refine heavyB_want (by rfl) (fun K' hK' => ?_)
      refine wp_appRs _ _ rfl (B := V.heap.size) hrow rfl (b := gs) (q := qs) (m := 3) (rs := rs) rfl HRL.out (hrs0.later tV0).1 (by decide) (by omega) (fun xr cr Y2 h1 h2 h3 => hK' _ _ (h2.mono (by omega)) ?_)
      clear hK' K'
      replace tV0 := tV0.trans h2
      have hsz := h2.size
      replace zX : V.heap.size ≤ Y2.heap.size := by omega
      replace lb0r : b0r < Y2.heap.size := by omega
      clear hrow
      have hrow := h1
      clear h1 h2 h3 hsz
      try simp only [Act.put, List.setIfInBounds_toArray, List.set_cons_zero, List.set_cons_succ]
      rw [wpSchedB]
      simp only [pick, List.map_nil, Array.getD_eq_getD_getElem?, List.getElem?_toArray, List.getElem?_cons_succ, List.getElem?_cons_zero, Option.getD_some]
      refine wpQuiet_nil ?_
      refine heavyB_want (by rfl) (fun K' hK' => ?_)
      go_simp
      refine hK' _ _ ((Below.refl _ _).alloc (by omega) _) ?_
      clear hK' K'
      obtain ⟨Y3, hY3⟩ : ∃ Y, Y2.alloc (.cells (zeroB 53) 5) = Y := ⟨_, rfl⟩
      have hq : Below Y2.heap.size Y2 Y3 := by rw [← hY3]; exact al (Below.refl _ _) _
      replace tV0 : Below V.heap.size V Y3 := by rw [← hY3]; exact tV0.alloc zX _
      have hsz : Y2.heap.size + 1 = Y3.heap.size := by rw [← hY3]; simp
      replace hrow := hrow.turn (Turns.of_below hq (Nat.le_refl _)) (fun _ _ h => h)
      have hzz : OwnsB V.heap.size Y3 (some ⟨Y2.heap.size, 0, none⟩) 53 (List.replicate 53 0) := by rw [← hY3]; exact OwnsB.zeros _ _ 53 _ (by omega) rfl (by decide)
      rw [hY3]
      clear hY3 hq
      obtain ⟨bz, ebz⟩ : ∃ b, Y2.heap.size = b := ⟨_, rfl⟩
      rw [ebz]
      rw [ebz] at hzz
      have db0rbz : b0r < bz := by omega
      replace lb0r : b0r < Y3.heap.size := by omega
      have gbz : V.heap.size ≤ bz := by omega
      have lbz : bz < Y3.heap.size := by omega
      replace zX : V.heap.size ≤ Y3.heap.size := by omega
      clear ebz hsz
      try simp only [Act.put, List.setIfInBounds_toArray, List.set_cons_zero, List.set_cons_succ]
      rw [wpSchedB]
      simp only [pick, List.map_nil, Array.getD_eq_getD_getElem?, List.getElem?_toArray, List.getElem?_cons_succ, List.getElem?_cons_zero, Option.getD_some]
      refine wpQuiet_nil ?_
      refine heavyB_want (by rfl) (fun K' hK' => ?_)
      go_simp
      refine hK' _ _ ((Below.refl _ _).alloc (by omega) _) ?_
      clear hK' K'
      obtain ⟨Y4, hY4⟩ : ∃ Y, Y3.alloc (.cells #[.slice (some ⟨bz, 0, none⟩) 53 53] 25) = Y := ⟨_, rfl⟩
      have hq : Below Y3.heap.size Y3 Y4 := by rw [← hY4]; exact al (Below.refl _ _) _
      replace tV0 : Below V.heap.size V Y4 := by rw [← hY4]; exact tV0.alloc zX _
      have hsz : Y3.heap.size + 1 = Y4.heap.size := by rw [← hY4]; simp
      replace hrow := hrow.turn (Turns.of_below hq (Nat.le_refl _)) (fun _ _ h => h)
      replace hzz := hzz.later hq
      have ny : Y4.cell? ⟨Y3.heap.size, 0, none⟩ = some (.slice (some ⟨bz, 0, none⟩) 53 53) := by rw [← hY4]; exact cell_new Y3 _ _ _ 0
      rw [hY4]
      clear hY4 hq
      obtain ⟨by_, eby_⟩ : ∃ b, Y3.heap.size = b := ⟨_, rfl⟩
      rw [eby_]
      rw [eby_] at ny
      have db0rby_ : b0r < by_ := by omega
      have dbzby_ : bz < by_ := by omega
      replace lb0r : b0r < Y4.heap.size := by omega
      replace lbz : bz < Y4.heap.size := by omega
      have gby_ : V.heap.size ≤ by_ := by omega
      have lby_ : by_ < Y4.heap.size := by omega
      replace zX : V.heap.size ≤ Y4.heap.size := by omega
      clear eby_ hsz
      try simp only [Act.put, List.setIfInBounds_toArray, List.set_cons_zero, List.set_cons_succ]
      rw [wpSchedB]
      simp only [pick, List.map_nil, Array.getD_eq_getD_getElem?, List.getElem?_toArray, List.getElem?_cons_succ, List.getElem?_cons_zero, Option.getD_some]
      refine wpQuiet_nil ?_
      refine heavyB_want (by rfl) (fun K' hK' => ?_)
      refine wp_appR _ _ rfl (B := V.heap.size) (rs := rs) (u := ⟨some ⟨bz, 0, none⟩, 53, List.replicate 53 0⟩) hrow (by rw [HRL.out]; rfl) (ad := ⟨by_, 0, none⟩) rfl ny (by have := HRL.out; omega) (by omega) (fun xr2 cr2 Y5 h1 h2 h3 => hK' _ _ (h2.mono (by omega)) ?_)
      clear hK' K'
      rw [HL4.out]
      have hz6 := hzz.bts.turn h3 (fun a e => by cases e; exact fun hh => hrow.apart hzz bz hh rfl)
      replace tV0 := tV0.trans h2
      have hsz := h2.size
      replace zX : V.heap.size ≤ Y5.heap.size := by omega
      clear hrow
      have hrow := h1
      clear h1 h2 h3 hsz hzz ny
      try simp only [Act.put, List.setIfInBounds_toArray, List.set_cons_zero, List.set_cons_succ]
      rw [wpSchedB]
      simp only [pick, List.map_cons, List.map_nil, Array.getD_eq_getD_getElem?, List.getElem?_toArray, List.getElem?_cons_succ, List.getElem?_cons_zero, Option.getD_some]
      repeat (first | go_big_quiet_step (fail) | quiet_step (fail))
      refine wpQuiet_nil ?_
      have n7x := later tV0 n7
      have f7x := (Below.frozen tV0 (p := ⟨b7, 0, none⟩) (by simp; omega)).trans f7
      refine heavyB_want (by rfl) (fun K' hK' => ?_)
      go_simp
      refine hK' _ _ ((Below.refl _ _).setCell (p := ⟨b7, 0, none⟩) (Nat.le_refl _) _) ?_
      clear hK' K' f7x
      obtain ⟨Z, hZ⟩ : ∃ Y, Y5.setCell ⟨b7, 0, none⟩ (.slice xr2 4 cr2) = Y := ⟨_, rfl⟩
      have ts : Turns (fun b => b = b7) Y5 Z := by rw [← hZ]; exact (Turns.refl (fun b => b = b7) Y5).setCell (p := ⟨b7, 0, none⟩) (fun _ => rfl) _
      have n7z : Z.cell? ⟨b7, 0, none⟩ = some (.slice xr2 4 cr2) := by rw [← hZ]; exact World.cell?_setCell_same' _ _ _ (by rw [n7x]; rfl)
      rw [hZ]
      clear hZ n7x
      try simp only [Act.put, List.setIfInBounds_toArray, List.set_cons_zero, List.set_cons_succ]
      rw [wpSchedB]
      simp only [List.map_nil]
      refine wpQuiet_nil ?_
      have tVZ : Turns (fun b => b = b7) V Z := (Turns.of_below (T := fun b => b = b7) tV0 (Nat.le_refl _)).trans ts
      have hwZ : Below w1.heap.size w1 Z := hw1V.trans (tVZ.below hw1V.size (fun i hi e => by omega))
      have hBZ := thru hB1 hwZ
      have n5z := tVZ.cell (p := ⟨b5, 0, none⟩) (by simp; omega) n5
      have n80z := tVZ.cell (p := ⟨b8, 0, none⟩) (by simp; omega) n80
      have n81z := tVZ.cell (p := ⟨b8, 1, none⟩) (by simp; omega) n81
      have n82z := tVZ.cell (p := ⟨b8, 2, none⟩) (by simp; omega) n82
      have hokz : OpOk Z ⟨1, false, some ⟨bD, 0, none⟩, 1, [5]⟩ := ⟨hok.1.turn tVZ (fun a e => by cases e; simp; omega), hok.2⟩
      have hrsz := hrs1.later hwZ
      have hz7 := hz6.turn ts (fun a e => by cases e; simp; omega)
      have hrtz : Rws Z xr2 (rs ++ [⟨some ⟨bz, 0, none⟩, 53, List.replicate 53 0⟩]) := by
        refine ⟨(hrow.turn ts (fun b hb e => by have := (hrow.low b hb).1; omega)).cellsR, fun r hr => ?_⟩
        rcases List.mem_append.1 hr with hr | hr
        · exact hrsz.2 r hr
        · obtain rfl : r = ⟨some ⟨bz, 0, none⟩, 53, List.replicate 53 0⟩ := by simpa using hr
          exact ⟨hz7, (fun h => by cases h), by simp, by simp⟩
      have hmt : (rs ++ [(⟨some ⟨bz, 0, none⟩, 53, List.replicate 53 0⟩ : Rw)]).map (·.l) = [erasedL, erasedL, erasedL, List.replicate 53 0] := by rw [List.map_append, HLS.out]; rfl
      have hl4 := HL4.out bz
      obtain ⟨rt, hrt_⟩ : ∃ rt : List Rw, rs ++ [⟨some ⟨bz, 0, none⟩, 53, List.replicate 53 0⟩] = rt := ⟨_, rfl⟩
      rw [hrt_] at hrtz hmt hl4
      clear hrt_ hrow hz6 hz7 ts tV0 tVZ n5 n7 n80 n81 n82 f7 hok hw1V hrs0 hBV zX lb0r lbz lby_
      obtain ⟨n5, n7, n80, n81, n82, hBV, hok, hrs, hrt⟩ := (⟨n5z, n7z, n80z, n81z, n82z, hBZ, hokz, hrsz, hrtz⟩ : _ ∧ _ ∧ _ ∧ _ ∧ _ ∧ _ ∧ _ ∧ _ ∧ _)
      clear n5z n7z n80z n81z n82z hBZ hokz hrsz hrtz hwZ hrs1 hB1
      have hbad : vldO (rt.map (·.l)) [⟨1, false, some ⟨bD, 0, none⟩, 1, [5]⟩] = false := by
        rw [Bool.eq_false_iff]
        intro h
        have h1 := ((vldS_iff _).1 ((vldO_iff _ _).1 h).1).2
        rw [hmt] at h1
        have := h1 (List.replicate 53 0) (by simp)
        simp at this
      have hl5 : ∀ l, l ∈ rt.map (·.l) → l.length ≤ 100000 := fun l hl => by
        rw [hmt] at hl
        simp only [List.mem_cons, List.not_mem_nil, or_false] at hl
        rcases hl with rfl | rfl | rfl | rfl
        · rw [erasedL_len]; decide
        · rw [erasedL_len]; decide
        · rw [erasedL_len]; decide
        · simp
      have HRB := Lib.hid (run_bad xr2 rt cr2 4 ⟨1, false, some ⟨bD, 0, none⟩, 1, [5]⟩ hl4 (by decide) hl5 hbad)
      have HCB := Lib.hid (cut_bad xr2 rt cr2 4 ⟨1, false, some ⟨bD, 0, none⟩, 1, [5]⟩ 0 0 hl4 (by decide) hl5 (by unfold cutOk; rw [hbad]; rfl))
      have HST := Lib.hid (same_yes xr2 rt cr2 4 hl4 (by decide))
      clear hbad hl5 hmt hl4
      obtain ⟨V9, hV⟩ : ∃ V9, Z = V9 := ⟨_, rfl⟩
      rw [hV] at n5 n7 n80 n81 n82 hBV hok hrs hrt ⊢
      clear hV
      go_wp2_with fail
      refine (HRB.out _ V9.heap.size (hrt.later (al (Below.refl _ V9) (.cells #[.int .i64 1, .bool false, .slice (some ⟨bD, 0, none⟩) 1 1] 31))) (ops_at (o := ⟨1, false, some ⟨bD, 0, none⟩, 1, [5]⟩) (cell_new V9 _ _ _ 0) (cell_new V9 _ _ _ 1) (cell_new V9 _ _ _ 2) (hok.later (al (Below.refl _ V9) (.cells #[.int .i64 1, .bool false, .slice (some ⟨bD, 0, none⟩) 1 1] 31))))).mono ?_
      rintro e V1 ⟨xa, ca, ra, rfl, hra, hma, hb⟩
      have hq := thru (al (Below.refl _ V9) (.cells #[.int .i64 1, .bool false, .slice (some ⟨bD, 0, none⟩) 1 1] 31)) hb
      replace n5 := later hq n5
      replace n7 := later hq n7
      replace n80 := later hq n80
      replace n81 := later hq n81
      replace n82 := later hq n82
      replace hrs := hrs.later hq
      replace hrt := hrt.later hq
      replace hok := hok.later hq
      replace hBV := thru hBV hq
      clear hb hq
      have HMA := Lib.hid hma
      clear hma
      have zb5 : b5 < V1.heap.size := World.block_lt_of_cell? _ _ n5
      have zb7 : b7 < V1.heap.size := World.block_lt_of_cell? _ _ n7
      have zb8 : b8 < V1.heap.size := World.block_lt_of_cell? _ _ n80
      go_wp2_with fail
      have e0 : ((V1.alloc (.cells #[.slice xa ra.length ca] 24)).alloc (.cells #[.int .i64 1, .bool false, .slice (some ⟨bD, 0, none⟩) 1 1] 31)).heap.size = V1.heap.size + 2 := by simp
      refine (HCB.out _ (V1.heap.size + 1) (hrt.later (al (al (Below.refl _ V1) (.cells #[.slice xa ra.length ca] 24)) (.cells #[.int .i64 1, .bool false, .slice (some ⟨bD, 0, none⟩) 1 1] 31))) (ops_at (o := ⟨1, false, some ⟨bD, 0, none⟩, 1, [5]⟩) (by go_simp) (by go_simp) (by go_simp) (hok.later (al (al (Below.refl _ V1) (.cells #[.slice xa ra.length ca] 24)) (.cells #[.int .i64 1, .bool false, .slice (some ⟨bD, 0, none⟩) 1 1] 31))))).mono ?_
      clear e0
      rintro e V2 ⟨xb, cb, rb, rfl, hrb, hmb, hb⟩
      have m9 := later (a := ⟨V1.heap.size, 0, none⟩) (v := .slice xa ra.length ca) hb (later (al (Below.refl _ _) _) (by go_simp))
      have hq := thru (al (al (Below.refl _ V1) (.cells #[.slice xa ra.length ca] 24)) (.cells #[.int .i64 1, .bool false, .slice (some ⟨bD, 0, none⟩) 1 1] 31)) hb
      replace n5 := later hq n5
      replace n7 := later hq n7
      replace n80 := later hq n80
      replace n81 := later hq n81
      replace n82 := later hq n82
      replace hrs := hrs.later hq
      replace hrt := hrt.later hq
      replace hra := hra.later hq
      replace hok := hok.later hq
      replace hBV := thru hBV hq
      clear hb hq zb5 zb7 zb8
      have HMB := Lib.hid hmb
      clear hmb
      obtain ⟨b9, hb9⟩ : ∃ b, V1.heap.size = b := ⟨_, rfl⟩
      rw [hb9] at m9 ⊢
      clear hb9
      have zb5 : b5 < V2.heap.size := World.block_lt_of_cell? _ _ n5
      have zb7 : b7 < V2.heap.size := World.block_lt_of_cell? _ _ n7
      have zb8 : b8 < V2.heap.size := World.block_lt_of_cell? _ _ n80
      have zb9 : b9 < V2.heap.size := World.block_lt_of_cell? _ _ m9
      go_wp2_with fail
      refine (HST.out _ xa ra ca (hra.later (al (Below.refl _ V2) (.cells #[.slice xb rb.length cb] 24))) (hrt.later (al (Below.refl _ V2) (.cells #[.slice xb rb.length cb] 24))) HMA.out).mono ?_
      rintro e V3 ⟨rfl, hb⟩
      have m11 := later (a := ⟨V2.heap.size, 0, none⟩) (v := .slice xb rb.length cb) hb (by go_simp)
      clear zb5 zb7 zb8 zb9
      have hq := thru (al (Below.refl _ V2) (.cells #[.slice xb rb.length cb] 24)) hb
      replace n5 := later hq n5
      replace n7 := later hq n7
      replace n80 := later hq n80
      replace n81 := later hq n81
      replace n82 := later hq n82
      replace m9 := later hq m9
      replace hrs := hrs.later hq
      replace hrt := hrt.later hq
      replace hra := hra.later hq
      replace hrb := hrb.later hq
      replace hok := hok.later hq
      replace hBV := thru hBV hq
      clear hb hq
      obtain ⟨b11, hb11⟩ : ∃ b, V2.heap.size = b := ⟨_, rfl⟩
      rw [hb11] at m11 ⊢
      clear hb11
      go_wp2_with fail
      refine (HST.out _ xb rb cb hrb hrt HMB.out).mono ?_
      rintro e V4 ⟨rfl, hb⟩
      have hq := thru (Below.refl _ V3) hb
      replace n5 := later hq n5
      replace n7 := later hq n7
      replace n80 := later hq n80
      replace n81 := later hq n81
      replace n82 := later hq n82
      replace m9 := later hq m9
      replace m11 := later hq m11
      replace hrs := hrs.later hq
      replace hrt := hrt.later hq
      replace hra := hra.later hq
      replace hrb := hrb.later hq
      replace hok := hok.later hq
      replace hBV := thru hBV hq
      clear hb hq
      go_wp2_with fail
      refine (HR1.out _ hrs).mono ?_
      rintro e V5 ⟨y1, cy1, rfl, hb⟩
      have hq := thru (Below.refl _ V4) hb
      replace n5 := later hq n5
      replace n7 := later hq n7
      replace n80 := later hq n80
      replace n81 := later hq n81
      replace n82 := later hq n82
      replace m9 := later hq m9
      replace m11 := later hq m11
      replace hrs := hrs.later hq
      replace hrt := hrt.later hq
      replace hra := hra.later hq
      replace hrb := hrb.later hq
      replace hok := hok.later hq
      replace hBV := thru hBV hq
      clear hb hq
      go_wp2_with fail
      refine (HR2.out _ hrs).mono ?_
      rintro e V6 ⟨y2, cy2, rfl, hb⟩
      have hq := thru (Below.refl _ V5) hb
      replace n5 := later hq n5
      replace n7 := later hq n7
      replace n80 := later hq n80
      replace n81 := later hq n81
      replace n82 := later hq n82
      replace m9 := later hq m9
      replace m11 := later hq m11
      replace hrs := hrs.later hq
      replace hrt := hrt.later hq
      replace hra := hra.later hq
      replace hrb := hrb.later hq
      replace hok := hok.later hq
      replace hBV := thru hBV hq
      clear hb hq
      clear n7 n80 n81 n82 m9 m11 hrt hra hrb hok HRB HCB HST HMA HMB
      go_wp2_with fail
      refine (HCN.out _ hrs).mono ?_
      rintro e V7 ⟨y3, cy3, r3, rfl, hr3, hm3, hb⟩
      have hq := thru (Below.refl _ V6) hb
      replace n5 := later hq n5
      replace hrs := hrs.later hq
      replace hBV := thru hBV hq
      clear hb hq hr3 hm3
      have z7 : b5 < V7.heap.size := World.block_lt_of_cell? _ _ n5
      go_wp2_with fail
      refine (HC0.out _ (V7.heap.size + 1) (hrs.later (al (al (Below.refl _ V7) (.cells #[.slice y3 r3.length cy3] 24)) (.cells #[.int .i64 0, .bool false, .slice none 0 0] 31))) (ops_at (o := ⟨0, false, none, 0, []⟩) (by go_simp) (by go_simp) (by go_simp) ⟨.inl rfl, fun _ => rfl, by decide, by decide, by decide, by decide⟩)).mono ?_
      rintro e V8 ⟨y4, cy4, r4, rfl, hr4, hm4, hb⟩
      have hq := thru (al (al (Below.refl _ V7) (.cells #[.slice y3 r3.length cy3] 24)) (.cells #[.int .i64 0, .bool false, .slice none 0 0] 31)) hb
      replace n5 := later hq n5
      replace hrs := hrs.later hq
      replace hBV := thru hBV hq
      clear hb hq hr4 hm4 z7
      have z8 : b5 < V8.heap.size := World.block_lt_of_cell? _ _ n5
      go_wp2_with fail
      refine (HRN.out _ (hrs.later (al (Below.refl _ V8) (.cells #[.slice y4 r4.length cy4] 24)))).mono ?_
      rintro e V9 ⟨y5, cy5, r5, rfl, hr5, hm5, hb⟩
      have hq := thru (al (Below.refl _ V8) (.cells #[.slice y4 r4.length cy4] 24)) hb
      replace n5 := later hq n5
      replace hrs := hrs.later hq
      replace hBV := thru hBV hq
      clear hb hq z8
      have HM5 := Lib.hid hm5
      clear hm5
      have z9 : b5 < V9.heap.size := World.block_lt_of_cell? _ _ n5
      go_wp2_with fail
      refine (HNW.out _).mono ?_
      rintro e V10 ⟨rfl, hb⟩
      have m21 := later (a := ⟨V9.heap.size, 0, none⟩) (v := .slice y5 r5.length cy5) hb (by go_simp)
      have hq := thru (al (Below.refl _ V9) (.cells #[.slice y5 r5.length cy5] 24)) hb
      replace n5 := later hq n5
      replace hrs := hrs.later hq
      replace hr5 := hr5.later hq
      replace hBV := thru hBV hq
      clear hb hq z9
      obtain ⟨b21, hb21⟩ : ∃ b, V9.heap.size = b := ⟨_, rfl⟩
      rw [hb21] at m21 ⊢
      clear hb21
      have z10 : b5 < V10.heap.size := World.block_lt_of_cell? _ _ n5
      have z11 : b21 < V10.heap.size := World.block_lt_of_cell? _ _ m21
      go_wp2_with fail
      refine (HSS.out _ y5 r5 cy5 (hr5.later (al (Below.refl _ V10) (.cells #[.slice none 0 0] 24))) (hrs.later (al (Below.refl _ V10) (.cells #[.slice none 0 0] 24))) HM5.out).mono ?_
      rintro e V11 ⟨rfl, hb⟩
      have hBW := thru (al hBV (.cells #[.slice none 0 0] 24)) hb
      go_wp2_with fail
      refine (awake_any _).mono ?_
      rintro e w' ⟨rfl, hb2⟩
      go_wp2_with fail
      go_ret
      exact ⟨rfl, thru hBW hb2⟩
    · refine heavyB_want (by rfl) (fun K' hK' => ?_)
      go_simp
      refine hK' _ _ ((Below.refl _ _).alloc (by omega) _) ?_
      clear hK' K'
      obtain ⟨Y2, hY2⟩ : ∃ Y, Y1.alloc (.cells (zeroB 53) 5) = Y := ⟨_, rfl⟩
      have hq : Below Y1.heap.size Y1 Y2 := by rw [← hY2]; exact al (Below.refl _ _) _
      replace tV0 : Below V.heap.size V Y2 := by rw [← hY2]; exact tV0.alloc zX _
      have hsz : Y1.heap.size + 1 = Y2.heap.size := by rw [← hY2]; simp
      replace hrow := hrow.turn (Turns.of_below hq (Nat.le_refl _)) (fun _ _ h => h)
      have hzz : OwnsB V.heap.size Y2 (some ⟨Y1.heap.size, 0, none⟩) 53 (List.replicate 53 0) := by rw [← hY2]; exact OwnsB.zeros _ _ 53 _ (by omega) rfl (by decide)
      rw [hY2]
      clear hY2 hq
      obtain ⟨bz, ebz⟩ : ∃ b, Y1.heap.size = b := ⟨_, rfl⟩
      rw [ebz]
      rw [ebz] at hzz
      have db0rbz : b0r < bz := by omega
      replace lb0r : b0r < Y2.heap.size := by omega
      have gbz : V.heap.size ≤ bz := by omega
      have lbz : bz < Y2.heap.size := by omega
      replace zX : V.heap.size ≤ Y2.heap.size := by omega
      clear ebz hsz
      try simp only [Act.put, List.setIfInBounds_toArray, List.set_cons_zero, List.set_cons_succ]
      rw [wpSchedB]
      simp only [pick, List.map_nil, Array.getD_eq_getD_getElem?, List.getElem?_toArray, List.getElem?_cons_succ, List.getElem?_cons_zero, Option.getD_some]
      refine wpQuiet_nil ?_
      refine ⟨?_, ?_⟩
      · refine heavyB_want (by rfl) (fun K' hK' => ?_)
        refine wp_appRs _ _ rfl (B := V.heap.size) hrow rfl (b := gs) (q := qs) (m := 3) (rs := rs) rfl HRL.out (hrs0.later tV0).1 (by decide) (by omega) (fun xr cr Y3 h1 h2 h3 => hK' _ _ (h2.mono (by omega)) ?_)
        clear hK' K'
        replace hzz := hzz.turn h3 (fun b hb hh => hrow.apart hzz b hh hb)
        replace tV0 := tV0.trans h2
        have hsz := h2.size
        replace zX : V.heap.size ≤ Y3.heap.size := by omega
        replace lb0r : b0r < Y3.heap.size := by omega
        replace lbz : bz < Y3.heap.size := by omega
        clear hrow
        have hrow := h1
        clear h1 h2 h3 hsz
        try simp only [Act.put, List.setIfInBounds_toArray, List.set_cons_zero, List.set_cons_succ]
        rw [wpSchedB]
        simp only [pick, List.map_nil, Array.getD_eq_getD_getElem?, List.getElem?_toArray, List.getElem?_cons_succ, List.getElem?_cons_zero, Option.getD_some]
        refine wpQuiet_nil ?_
        refine heavyB_want (by rfl) (fun K' hK' => ?_)
        go_simp
        refine hK' _ _ ((Below.refl _ _).alloc (by omega) _) ?_
        clear hK' K'
        obtain ⟨Y4, hY4⟩ : ∃ Y, Y3.alloc (.cells #[.slice (some ⟨bz, 0, none⟩) 53 53] 25) = Y := ⟨_, rfl⟩
        have hq : Below Y3.heap.size Y3 Y4 := by rw [← hY4]; exact al (Below.refl _ _) _
        replace tV0 : Below V.heap.size V Y4 := by rw [← hY4]; exact tV0.alloc zX _
        have hsz : Y3.heap.size + 1 = Y4.heap.size := by rw [← hY4]; simp
        replace hrow := hrow.turn (Turns.of_below hq (Nat.le_refl _)) (fun _ _ h => h)
        replace hzz := hzz.later hq
        have ny : Y4.cell? ⟨Y3.heap.size, 0, none⟩ = some (.slice (some ⟨bz, 0, none⟩) 53 53) := by rw [← hY4]; exact cell_new Y3 _ _ _ 0
        rw [hY4]
        clear hY4 hq
        obtain ⟨by_, eby_⟩ : ∃ b, Y3.heap.size = b := ⟨_, rfl⟩
        rw [eby_]
        rw [eby_] at ny
        have db0rby_ : b0r < by_ := by omega
        have dbzby_ : bz < by_ := by omega
        replace lb0r : b0r < Y4.heap.size := by omega
        replace lbz : bz < Y4.heap.size := by omega
        have gby_ : V.heap.size ≤ by_ := by omega
        have lby_ : by_ < Y4.heap.size := by omega
        replace zX : V.heap.size ≤ Y4.heap.size := by omega
        clear eby_ hsz
        try simp only [Act.put, List.setIfInBounds_toArray, List.set_cons_zero, List.set_cons_succ]
        rw [wpSchedB]
        simp only [pick, List.map_nil, Array.getD_eq_getD_getElem?, List.getElem?_toArray, List.getElem?_cons_succ, List.getElem?_cons_zero, Option.getD_some]
        refine wpQuiet_nil ?_
        refine heavyB_want (by rfl) (fun K' hK' => ?_)
        refine wp_appR _ _ rfl (B := V.heap.size) (rs := rs) (u := ⟨some ⟨bz, 0, none⟩, 53, List.replicate 53 0⟩) hrow (by rw [HRL.out]; rfl) (ad := ⟨by_, 0, none⟩) rfl ny (by have := HRL.out; omega) (by omega) (fun xr2 cr2 Y5 h1 h2 h3 => hK' _ _ (h2.mono (by omega)) ?_)
        clear hK' K'
        rw [HL4.out]
        have hz6 := hzz.bts.turn h3 (fun a e => by cases e; exact fun hh => hrow.apart hzz bz hh rfl)
        replace tV0 := tV0.trans h2
        have hsz := h2.size
        replace zX : V.heap.size ≤ Y5.heap.size := by omega
        clear hrow
        have hrow := h1
        clear h1 h2 h3 hsz hzz ny
        try simp only [Act.put, List.setIfInBounds_toArray, List.set_cons_zero, List.set_cons_succ]
        rw [wpSchedB]
        simp only [pick, List.map_cons, List.map_nil, Array.getD_eq_getD_getElem?, List.getElem?_toArray, List.getElem?_cons_succ, List.getElem?_cons_zero, Option.getD_some]
        repeat (first | go_big_quiet_step (fail) | quiet_step (fail))
        refine wpQuiet_nil ?_
        have n7x := later tV0 n7
        have f7x := (Below.frozen tV0 (p := ⟨b7, 0, none⟩) (by simp; omega)).trans f7
        refine heavyB_want (by rfl) (fun K' hK' => ?_)
        go_simp
        refine hK' _ _ ((Below.refl _ _).setCell (p := ⟨b7, 0, none⟩) (Nat.le_refl _) _) ?_
        clear hK' K' f7x
        obtain ⟨Z, hZ⟩ : ∃ Y, Y5.setCell ⟨b7, 0, none⟩ (.slice xr2 4 cr2) = Y := ⟨_, rfl⟩
        have ts : Turns (fun b => b = b7) Y5 Z := by rw [← hZ]; exact (Turns.refl (fun b => b = b7) Y5).setCell (p := ⟨b7, 0, none⟩) (fun _ => rfl) _
        have n7z : Z.cell? ⟨b7, 0, none⟩ = some (.slice xr2 4 cr2) := by rw [← hZ]; exact World.cell?_setCell_same' _ _ _ (by rw [n7x]; rfl)
        rw [hZ]
        clear hZ n7x
        try simp only [Act.put, List.setIfInBounds_toArray, List.set_cons_zero, List.set_cons_succ]
        rw [wpSchedB]
        simp only [List.map_nil]
        refine wpQuiet_nil ?_
        have tVZ : Turns (fun b => b = b7) V Z := (Turns.of_below (T := fun b => b = b7) tV0 (Nat.le_refl _)).trans ts
        have hwZ : Below w1.heap.size w1 Z := hw1V.trans (tVZ.below hw1V.size (fun i hi e => by omega))
        have hBZ := thru hB1 hwZ
        have n5z := tVZ.cell (p := ⟨b5, 0, none⟩) (by simp; omega) n5
        have n80z := tVZ.cell (p := ⟨b8, 0, none⟩) (by simp; omega) n80
        have n81z := tVZ.cell (p := ⟨b8, 1, none⟩) (by simp; omega) n81
        have n82z := tVZ.cell (p := ⟨b8, 2, none⟩) (by simp; omega) n82
        have hokz : OpOk Z ⟨1, false, some ⟨bD, 0, none⟩, 1, [5]⟩ := ⟨hok.1.turn tVZ (fun a e => by cases e; simp; omega), hok.2⟩
        have hrsz := hrs1.later hwZ
        have hz7 := hz6.turn ts (fun a e => by cases e; simp; omega)
        have hrtz : Rws Z xr2 (rs ++ [⟨some ⟨bz, 0, none⟩, 53, List.replicate 53 0⟩]) := by
          refine ⟨(hrow.turn ts (fun b hb e => by have := (hrow.low b hb).1; omega)).cellsR, fun r hr => ?_⟩
          rcases List.mem_append.1 hr with hr | hr
          · exact hrsz.2 r hr
          · obtain rfl : r = ⟨some ⟨bz, 0, none⟩, 53, List.replicate 53 0⟩ := by simpa using hr
            exact ⟨hz7, (fun h => by cases h), by simp, by simp⟩
        have hmt : (rs ++ [(⟨some ⟨bz, 0, none⟩, 53, List.replicate 53 0⟩ : Rw)]).map (·.l) = [erasedL, erasedL, erasedL, List.replicate 53 0] := by rw [List.map_append, HLS.out]; rfl
        have hl4 := HL4.out bz
        obtain ⟨rt, hrt_⟩ : ∃ rt : List Rw, rs ++ [⟨some ⟨bz, 0, none⟩, 53, List.replicate 53 0⟩] = rt := ⟨_, rfl⟩
        rw [hrt_] at hrtz hmt hl4
        clear hrt_ hrow hz6 hz7 ts tV0 tVZ n5 n7 n80 n81 n82 f7 hok hw1V hrs0 hBV zX lb0r lbz lby_
        obtain ⟨n5, n7, n80, n81, n82, hBV, hok, hrs, hrt⟩ := (⟨n5z, n7z, n80z, n81z, n82z, hBZ, hokz, hrsz, hrtz⟩ : _ ∧ _ ∧ _ ∧ _ ∧ _ ∧ _ ∧ _ ∧ _ ∧ _)
        clear n5z n7z n80z n81z n82z hBZ hokz hrsz hrtz hwZ hrs1 hB1
        have hbad : vldO (rt.map (·.l)) [⟨1, false, some ⟨bD, 0, none⟩, 1, [5]⟩] = false := by
          rw [Bool.eq_false_iff]
          intro h
          have h1 := ((vldS_iff _).1 ((vldO_iff _ _).1 h).1).2
          rw [hmt] at h1
          have := h1 (List.replicate 53 0) (by simp)
          simp at this
        have hl5 : ∀ l, l ∈ rt.map (·.l) → l.length ≤ 100000 := fun l hl => by
          rw [hmt] at hl
          simp only [List.mem_cons, List.not_mem_nil, or_false] at hl
          rcases hl with rfl | rfl | rfl | rfl
          · rw [erasedL_len]; decide
          · rw [erasedL_len]; decide
          · rw [erasedL_len]; decide
          · simp
        have HRB := Lib.hid (run_bad xr2 rt cr2 4 ⟨1, false, some ⟨bD, 0, none⟩, 1, [5]⟩ hl4 (by decide) hl5 hbad)
        have HCB := Lib.hid (cut_bad xr2 rt cr2 4 ⟨1, false, some ⟨bD, 0, none⟩, 1, [5]⟩ 0 0 hl4 (by decide) hl5 (by unfold cutOk; rw [hbad]; rfl))
        have HST := Lib.hid (same_yes xr2 rt cr2 4 hl4 (by decide))
        clear hbad hl5 hmt hl4
        obtain ⟨V9, hV⟩ : ∃ V9, Z = V9 := ⟨_, rfl⟩
        rw [hV] at n5 n7 n80 n81 n82 hBV hok hrs hrt ⊢
        clear hV
        go_wp2_with fail
        refine (HRB.out _ V9.heap.size (hrt.later (al (Below.refl _ V9) (.cells #[.int .i64 1, .bool false, .slice (some ⟨bD, 0, none⟩) 1 1] 31))) (ops_at (o := ⟨1, false, some ⟨bD, 0, none⟩, 1, [5]⟩) (cell_new V9 _ _ _ 0) (cell_new V9 _ _ _ 1) (cell_new V9 _ _ _ 2) (hok.later (al (Below.refl _ V9) (.cells #[.int .i64 1, .bool false, .slice (some ⟨bD, 0, none⟩) 1 1] 31))))).mono ?_
        rintro e V1 ⟨xa, ca, ra, rfl, hra, hma, hb⟩
        have hq := thru (al (Below.refl _ V9) (.cells #[.int .i64 1, .bool false, .slice (some ⟨bD, 0, none⟩) 1 1] 31)) hb
        replace n5 := later hq n5
        replace n7 := later hq n7
        replace n80 := later hq n80
        replace n81 := later hq n81
        replace n82 := later hq n82
        replace hrs := hrs.later hq
        replace hrt := hrt.later hq
        replace hok := hok.later hq
        replace hBV := thru hBV hq
        clear hb hq
        have HMA := Lib.hid hma
        clear hma
        have zb5 : b5 < V1.heap.size := World.block_lt_of_cell? _ _ n5
        have zb7 : b7 < V1.heap.size := World.block_lt_of_cell? _ _ n7
        have zb8 : b8 < V1.heap.size := World.block_lt_of_cell? _ _ n80
        go_wp2_with fail
        have e0 : ((V1.alloc (.cells #[.slice xa ra.length ca] 24)).alloc (.cells #[.int .i64 1, .bool false, .slice (some ⟨bD, 0, none⟩) 1 1] 31)).heap.size = V1.heap.size + 2 := by simp
        refine (HCB.out _ (V1.heap.size + 1) (hrt.later (al (al (Below.refl _ V1) (.cells #[.slice xa ra.length ca] 24)) (.cells #[.int .i64 1, .bool false, .slice (some ⟨bD, 0, none⟩) 1 1] 31))) (ops_at (o := ⟨1, false, some ⟨bD, 0, none⟩, 1, [5]⟩) (by go_simp) (by go_simp) (by go_simp) (hok.later (al (al (Below.refl _ V1) (.cells #[.slice xa ra.length ca] 24)) (.cells #[.int .i64 1, .bool false, .slice (some ⟨bD, 0, none⟩) 1 1] 31))))).mono ?_
        clear e0
        rintro e V2 ⟨xb, cb, rb, rfl, hrb, hmb, hb⟩
        have m9 := later (a := ⟨V1.heap.size, 0, none⟩) (v := .slice xa ra.length ca) hb (later (al (Below.refl _ _) _) (by go_simp))
        have hq := thru (al (al (Below.refl _ V1) (.cells #[.slice xa ra.length ca] 24)) (.cells #[.int .i64 1, .bool false, .slice (some ⟨bD, 0, none⟩) 1 1] 31)) hb
        replace n5 := later hq n5
        replace n7 := later hq n7
        replace n80 := later hq n80
        replace n81 := later hq n81
        replace n82 := later hq n82
        replace hrs := hrs.later hq
        replace hrt := hrt.later hq
        replace hra := hra.later hq
        replace hok := hok.later hq
        replace hBV := thru hBV hq
        clear hb hq zb5 zb7 zb8
        have HMB := Lib.hid hmb
        clear hmb
        obtain ⟨b9, hb9⟩ : ∃ b, V1.heap.size = b := ⟨_, rfl⟩
        rw [hb9] at m9 ⊢
        clear hb9
        have zb5 : b5 < V2.heap.size := World.block_lt_of_cell? _ _ n5
        have zb7 : b7 < V2.heap.size := World.block_lt_of_cell? _ _ n7
        have zb8 : b8 < V2.heap.size := World.block_lt_of_cell? _ _ n80
        have zb9 : b9 < V2.heap.size := World.block_lt_of_cell? _ _ m9
        go_wp2_with fail
        refine (HST.out _ xa ra ca (hra.later (al (Below.refl _ V2) (.cells #[.slice xb rb.length cb] 24))) (hrt.later (al (Below.refl _ V2) (.cells #[.slice xb rb.length cb] 24))) HMA.out).mono ?_
        rintro e V3 ⟨rfl, hb⟩
        have m11 := later (a := ⟨V2.heap.size, 0, none⟩) (v := .slice xb rb.length cb) hb (by go_simp)
        clear zb5 zb7 zb8 zb9
        have hq := thru (al (Below.refl _ V2) (.cells #[.slice xb rb.length cb] 24)) hb
        replace n5 := later hq n5
        replace n7 := later hq n7
        replace n80 := later hq n80
        replace n81 := later hq n81
        replace n82 := later hq n82
        replace m9 := later hq m9
        replace hrs := hrs.later hq
        replace hrt := hrt.later hq
        replace hra := hra.later hq
        replace hrb := hrb.later hq
        replace hok := hok.later hq
        replace hBV := thru hBV hq
        clear hb hq
        obtain ⟨b11, hb11⟩ : ∃ b, V2.heap.size = b := ⟨_, rfl⟩
        rw [hb11] at m11 ⊢
        clear hb11
        go_wp2_with fail
        refine (HST.out _ xb rb cb hrb hrt HMB.out).mono ?_
        rintro e V4 ⟨rfl, hb⟩
        have hq := thru (Below.refl _ V3) hb
        replace n5 := later hq n5
        replace n7 := later hq n7
        replace n80 := later hq n80
        replace n81 := later hq n81
        replace n82 := later hq n82
        replace m9 := later hq m9
        replace m11 := later hq m11
        replace hrs := hrs.later hq
        replace hrt := hrt.later hq
        replace hra := hra.later hq
        replace hrb := hrb.later hq
        replace hok := hok.later hq
        replace hBV := thru hBV hq
        clear hb hq
        go_wp2_with fail
        refine (HR1.out _ hrs).mono ?_
        rintro e V5 ⟨y1, cy1, rfl, hb⟩
        have hq := thru (Below.refl _ V4) hb
        replace n5 := later hq n5
        replace n7 := later hq n7
        replace n80 := later hq n80
        replace n81 := later hq n81
        replace n82 := later hq n82
        replace m9 := later hq m9
        replace m11 := later hq m11
        replace hrs := hrs.later hq
        replace hrt := hrt.later hq
        replace hra := hra.later hq
        replace hrb := hrb.later hq
        replace hok := hok.later hq
        replace hBV := thru hBV hq
        clear hb hq
        go_wp2_with fail
        refine (HR2.out _ hrs).mono ?_
        rintro e V6 ⟨y2, cy2, rfl, hb⟩
        have hq := thru (Below.refl _ V5) hb
        replace n5 := later hq n5
        replace n7 := later hq n7
        replace n80 := later hq n80
        replace n81 := later hq n81
        replace n82 := later hq n82
        replace m9 := later hq m9
        replace m11 := later hq m11
        replace hrs := hrs.later hq
        replace hrt := hrt.later hq
        replace hra := hra.later hq
        replace hrb := hrb.later hq
        replace hok := hok.later hq
        replace hBV := thru hBV hq
        clear hb hq
        clear n7 n80 n81 n82 m9 m11 hrt hra hrb hok HRB HCB HST HMA HMB
        go_wp2_with fail
        refine (HCN.out _ hrs).mono ?_
        rintro e V7 ⟨y3, cy3, r3, rfl, hr3, hm3, hb⟩
        have hq := thru (Below.refl _ V6) hb
        replace n5 := later hq n5
        replace hrs := hrs.later hq
        replace hBV := thru hBV hq
        clear hb hq hr3 hm3
        have z7 : b5 < V7.heap.size := World.block_lt_of_cell? _ _ n5
        go_wp2_with fail
        refine (HC0.out _ (V7.heap.size + 1) (hrs.later (al (al (Below.refl _ V7) (.cells #[.slice y3 r3.length cy3] 24)) (.cells #[.int .i64 0, .bool false, .slice none 0 0] 31))) (ops_at (o := ⟨0, false, none, 0, []⟩) (by go_simp) (by go_simp) (by go_simp) ⟨.inl rfl, fun _ => rfl, by decide, by decide, by decide, by decide⟩)).mono ?_
        rintro e V8 ⟨y4, cy4, r4, rfl, hr4, hm4, hb⟩
        have hq := thru (al (al (Below.refl _ V7) (.cells #[.slice y3 r3.length cy3] 24)) (.cells #[.int .i64 0, .bool false, .slice none 0 0] 31)) hb
        replace n5 := later hq n5
        replace hrs := hrs.later hq
        replace hBV := thru hBV hq
        clear hb hq hr4 hm4 z7
        have z8 : b5 < V8.heap.size := World.block_lt_of_cell? _ _ n5
        go_wp2_with fail
        refine (HRN.out _ (hrs.later (al (Below.refl _ V8) (.cells #[.slice y4 r4.length cy4] 24)))).mono ?_
        rintro e V9 ⟨y5, cy5, r5, rfl, hr5, hm5, hb⟩
        have hq := thru (al (Below.refl _ V8) (.cells #[.slice y4 r4.length cy4] 24)) hb
        replace n5 := later hq n5
        replace hrs := hrs.later hq
        replace hBV := thru hBV hq
        clear hb hq z8
        have HM5 := Lib.hid hm5
        clear hm5
        have z9 : b5 < V9.heap.size := World.block_lt_of_cell? _ _ n5
        go_wp2_with fail
        refine (HNW.out _).mono ?_
        rintro e V10 ⟨rfl, hb⟩
        have m21 := later (a := ⟨V9.heap.size, 0, none⟩) (v := .slice y5 r5.length cy5) hb (by go_simp)
        have hq := thru (al (Below.refl _ V9) (.cells #[.slice y5 r5.length cy5] 24)) hb
        replace n5 := later hq n5
        replace hrs := hrs.later hq
        replace hr5 := hr5.later hq
        replace hBV := thru hBV hq
        clear hb hq z9
        obtain ⟨b21, hb21⟩ : ∃ b, V9.heap.size = b := ⟨_, rfl⟩
        rw [hb21] at m21 ⊢
        clear hb21
        have z10 : b5 < V10.heap.size := World.block_lt_of_cell? _ _ n5
        have z11 : b21 < V10.heap.size := World.block_lt_of_cell? _ _ m21
        go_wp2_with fail
        refine (HSS.out _ y5 r5 cy5 (hr5.later (al (Below.refl _ V10) (.cells #[.slice none 0 0] 24))) (hrs.later (al (Below.refl _ V10) (.cells #[.slice none 0 0] 24))) HM5.out).mono ?_
        rintro e V11 ⟨rfl, hb⟩
        have hBW := thru (al hBV (.cells #[.slice none 0 0] 24)) hb
        go_wp2_with fail
        refine (awake_any _).mono ?_
        rintro e w' ⟨rfl, hb2⟩
        go_wp2_with fail
        go_ret
        exact ⟨rfl, thru hBW hb2⟩
      · refine heavyB_want (by rfl) (fun K' hK' => ?_)
        go_simp
        refine hK' _ _ ((Below.refl _ _).alloc (by omega) _) ?_
        clear hK' K'
        obtain ⟨Y3, hY3⟩ : ∃ Y, Y2.alloc (.cells #[.slice (some ⟨bz, 0, none⟩) 53 53] 25) = Y := ⟨_, rfl⟩
        have hq : Below Y2.heap.size Y2 Y3 := by rw [← hY3]; exact al (Below.refl _ _) _
        replace tV0 : Below V.heap.size V Y3 := by rw [← hY3]; exact tV0.alloc zX _
        have hsz : Y2.heap.size + 1 = Y3.heap.size := by rw [← hY3]; simp
        replace hrow := hrow.turn (Turns.of_below hq (Nat.le_refl _)) (fun _ _ h => h)
        replace hzz := hzz.later hq
        have ny : Y3.cell? ⟨Y2.heap.size, 0, none⟩ = some (.slice (some ⟨bz, 0, none⟩) 53 53) := by rw [← hY3]; exact cell_new Y2 _ _ _ 0
        rw [hY3]
        clear hY3 hq
        obtain ⟨by_, eby_⟩ : ∃ b, Y2.heap.size = b := ⟨_, rfl⟩
        rw [eby_]
        rw [eby_] at ny
        have db0rby_ : b0r < by_ := by omega
        have dbzby_ : bz < by_ := by omega
        replace lb0r : b0r < Y3.heap.size := by omega
        replace lbz : bz < Y3.heap.size := by omega
        have gby_ : V.heap.size ≤ by_ := by omega
        have lby_ : by_ < Y3.heap.size := by omega
        replace zX : V.heap.size ≤ Y3.heap.size := by omega
        clear eby_ hsz
        try simp only [Act.put, List.setIfInBounds_toArray, List.set_cons_zero, List.set_cons_succ]
        rw [wpSchedB]
        simp only [pick, List.map_nil, Array.getD_eq_getD_getElem?, List.getElem?_toArray, List.getElem?_cons_succ, List.getElem?_cons_zero, Option.getD_some]
        refine wpQuiet_nil ?_
        refine heavyB_want (by rfl) (fun K' hK' => ?_)
        refine wp_appRs _ _ rfl (B := V.heap.size) hrow rfl (b := gs) (q := qs) (m := 3) (rs := rs) rfl HRL.out (hrs0.later tV0).1 (by decide) (by omega) (fun xr cr Y4 h1 h2 h3 => hK' _ _ (h2.mono (by omega)) ?_)
        clear hK' K'
        replace hzz := hzz.turn h3 (fun b hb hh => hrow.apart hzz b hh hb)
        replace ny := h3.cell (p := ⟨by_, 0, none⟩) (fun e => by have e2 : b0r = by_ := Option.some.inj e; omega) ny
        replace tV0 := tV0.trans h2
        have hsz := h2.size
        replace zX : V.heap.size ≤ Y4.heap.size := by omega
        replace lb0r : b0r < Y4.heap.size := by omega
        replace lbz : bz < Y4.heap.size := by omega
        replace lby_ : by_ < Y4.heap.size := by omega
        clear hrow
        have hrow := h1
        clear h1 h2 h3 hsz
        try simp only [Act.put, List.setIfInBounds_toArray, List.set_cons_zero, List.set_cons_succ]
        rw [wpSchedB]
        simp only [pick, List.map_nil, Array.getD_eq_getD_getElem?, List.getElem?_toArray, List.getElem?_cons_succ, List.getElem?_cons_zero, Option.getD_some]
        refine wpQuiet_nil ?_
        refine heavyB_want (by rfl) (fun K' hK' => ?_)
        refine wp_appR _ _ rfl (B := V.heap.size) (rs := rs) (u := ⟨some ⟨bz, 0, none⟩, 53, List.replicate 53 0⟩) hrow (by rw [HRL.out]; rfl) (ad := ⟨by_, 0, none⟩) rfl ny (by have := HRL.out; omega) (by omega) (fun xr2 cr2 Y5 h1 h2 h3 => hK' _ _ (h2.mono (by omega)) ?_)
        clear hK' K'
        rw [HL4.out]
        have hz6 := hzz.bts.turn h3 (fun a e => by cases e; exact fun hh => hrow.apart hzz bz hh rfl)
        replace tV0 := tV0.trans h2
        have hsz := h2.size
        replace zX : V.heap.size ≤ Y5.heap.size := by omega
        clear hrow
        have hrow := h1
        clear h1 h2 h3 hsz hzz ny
        try simp only [Act.put, List.setIfInBounds_toArray, List.set_cons_zero, List.set_cons_succ]
        rw [wpSchedB]
        simp only [pick, List.map_cons, List.map_nil, Array.getD_eq_getD_getElem?, List.getElem?_toArray, List.getElem?_cons_succ, List.getElem?_cons_zero, Option.getD_some]
        repeat (first | go_big_quiet_step (fail) | quiet_step (fail))
        refine wpQuiet_nil ?_
        have n7x := later tV0 n7
        have f7x := (Below.frozen tV0 (p := ⟨b7, 0, none⟩) (by simp; omega)).trans f7
        refine heavyB_want (by rfl) (fun K' hK' => ?_)
        go_simp
        refine hK' _ _ ((Below.refl _ _).setCell (p := ⟨b7, 0, none⟩) (Nat.le_refl _) _) ?_
        clear hK' K' f7x
        obtain ⟨Z, hZ⟩ : ∃ Y, Y5.setCell ⟨b7, 0, none⟩ (.slice xr2 4 cr2) = Y := ⟨_, rfl⟩
        have ts : Turns (fun b => b = b7) Y5 Z := by rw [← hZ]; exact (Turns.refl (fun b => b = b7) Y5).setCell (p := ⟨b7, 0, none⟩) (fun _ => rfl) _
        have n7z : Z.cell? ⟨b7, 0, none⟩ = some (.slice xr2 4 cr2) := by rw [← hZ]; exact World.cell?_setCell_same' _ _ _ (by rw [n7x]; rfl)
        rw [hZ]
        clear hZ n7x
        try simp only [Act.put, List.setIfInBounds_toArray, List.set_cons_zero, List.set_cons_succ]
        rw [wpSchedB]
        simp only [List.map_nil]
        refine wpQuiet_nil ?_
        have tVZ : Turns (fun b => b = b7) V Z := (Turns.of_below (T := fun b => b = b7) tV0 (Nat.le_refl _)).trans ts
        have hwZ : Below w1.heap.size w1 Z := hw1V.trans (tVZ.below hw1V.size (fun i hi e => by omega))
        have hBZ := thru hB1 hwZ
        have n5z := tVZ.cell (p := ⟨b5, 0, none⟩) (by simp; omega) n5
        have n80z := tVZ.cell (p := ⟨b8, 0, none⟩) (by simp; omega) n80
        have n81z := tVZ.cell (p := ⟨b8, 1, none⟩) (by simp; omega) n81
        have n82z := tVZ.cell (p := ⟨b8, 2, none⟩) (by simp; omega) n82
        have hokz : OpOk Z ⟨1, false, some ⟨bD, 0, none⟩, 1, [5]⟩ := ⟨hok.1.turn tVZ (fun a e => by cases e; simp; omega), hok.2⟩
        have hrsz := hrs1.later hwZ
        have hz7 := hz6.turn ts (fun a e => by cases e; simp; omega)
        have hrtz : Rws Z xr2 (rs ++ [⟨some ⟨bz, 0, none⟩, 53, List.replicate 53 0⟩]) := by
          refine ⟨(hrow.turn ts (fun b hb e => by have := (hrow.low b hb).1; omega)).cellsR, fun r hr => ?_⟩
          rcases List.mem_append.1 hr with hr | hr
          · exact hrsz.2 r hr
          · obtain rfl : r = ⟨some ⟨bz, 0, none⟩, 53, List.replicate 53 0⟩ := by simpa using hr
            exact ⟨hz7, (fun h => by cases h), by simp, by simp⟩
        have hmt : (rs ++ [(⟨some ⟨bz, 0, none⟩, 53, List.replicate 53 0⟩ : Rw)]).map (·.l) = [erasedL, erasedL, erasedL, List.replicate 53 0] := by rw [List.map_append, HLS.out]; rfl
        have hl4 := HL4.out bz
        obtain ⟨rt, hrt_⟩ : ∃ rt : List Rw, rs ++ [⟨some ⟨bz, 0, none⟩, 53, List.replicate 53 0⟩] = rt := ⟨_, rfl⟩
        rw [hrt_] at hrtz hmt hl4
        clear hrt_ hrow hz6 hz7 ts tV0 tVZ n5 n7 n80 n81 n82 f7 hok hw1V hrs0 hBV zX lb0r lbz lby_
        obtain ⟨n5, n7, n80, n81, n82, hBV, hok, hrs, hrt⟩ := (⟨n5z, n7z, n80z, n81z, n82z, hBZ, hokz, hrsz, hrtz⟩ : _ ∧ _ ∧ _ ∧ _ ∧ _ ∧ _ ∧ _ ∧ _ ∧ _)
        clear n5z n7z n80z n81z n82z hBZ hokz hrsz hrtz hwZ hrs1 hB1
        have hbad : vldO (rt.map (·.l)) [⟨1, false, some ⟨bD, 0, none⟩, 1, [5]⟩] = false := by
          rw [Bool.eq_false_iff]
          intro h
          have h1 := ((vldS_iff _).1 ((vldO_iff _ _).1 h).1).2
          rw [hmt] at h1
          have := h1 (List.replicate 53 0) (by simp)
          simp at this
        have hl5 : ∀ l, l ∈ rt.map (·.l) → l.length ≤ 100000 := fun l hl => by
          rw [hmt] at hl
          simp only [List.mem_cons, List.not_mem_nil, or_false] at hl
          rcases hl with rfl | rfl | rfl | rfl
          · rw [erasedL_len]; decide
          · rw [erasedL_len]; decide
          · rw [erasedL_len]; decide
          · simp
        have HRB := Lib.hid (run_bad xr2 rt cr2 4 ⟨1, false, some ⟨bD, 0, none⟩, 1, [5]⟩ hl4 (by decide) hl5 hbad)
        have HCB := Lib.hid (cut_bad xr2 rt cr2 4 ⟨1, false, some ⟨bD, 0, none⟩, 1, [5]⟩ 0 0 hl4 (by decide) hl5 (by unfold cutOk; rw [hbad]; rfl))
        have HST := Lib.hid (same_yes xr2 rt cr2 4 hl4 (by decide))
        clear hbad hl5 hmt hl4
        obtain ⟨V9, hV⟩ : ∃ V9, Z = V9 := ⟨_, rfl⟩
        rw [hV] at n5 n7 n80 n81 n82 hBV hok hrs hrt ⊢
        clear hV
        go_wp2_with fail
        refine (HRB.out _ V9.heap.size (hrt.later (al (Below.refl _ V9) (.cells #[.int .i64 1, .bool false, .slice (some ⟨bD, 0, none⟩) 1 1] 31))) (ops_at (o := ⟨1, false, some ⟨bD, 0, none⟩, 1, [5]⟩) (cell_new V9 _ _ _ 0) (cell_new V9 _ _ _ 1) (cell_new V9 _ _ _ 2) (hok.later (al (Below.refl _ V9) (.cells #[.int .i64 1, .bool false, .slice (some ⟨bD, 0, none⟩) 1 1] 31))))).mono ?_
        rintro e V1 ⟨xa, ca, ra, rfl, hra, hma, hb⟩
        have hq := thru (al (Below.refl _ V9) (.cells #[.int .i64 1, .bool false, .slice (some ⟨bD, 0, none⟩) 1 1] 31)) hb
        replace n5 := later hq n5
        replace n7 := later hq n7
        replace n80 := later hq n80
        replace n81 := later hq n81
        replace n82 := later hq n82
        replace hrs := hrs.later hq
        replace hrt := hrt.later hq
        replace hok := hok.later hq
        replace hBV := thru hBV hq
        clear hb hq
        have HMA := Lib.hid hma
        clear hma
        have zb5 : b5 < V1.heap.size := World.block_lt_of_cell? _ _ n5
        have zb7 : b7 < V1.heap.size := World.block_lt_of_cell? _ _ n7
        have zb8 : b8 < V1.heap.size := World.block_lt_of_cell? _ _ n80
        go_wp2_with fail
        have e0 : ((V1.alloc (.cells #[.slice xa ra.length ca] 24)).alloc (.cells #[.int .i64 1, .bool false, .slice (some ⟨bD, 0, none⟩) 1 1] 31)).heap.size = V1.heap.size + 2 := by simp
        refine (HCB.out _ (V1.heap.size + 1) (hrt.later (al (al (Below.refl _ V1) (.cells #[.slice xa ra.length ca] 24)) (.cells #[.int .i64 1, .bool false, .slice (some ⟨bD, 0, none⟩) 1 1] 31))) (ops_at (o := ⟨1, false, some ⟨bD, 0, none⟩, 1, [5]⟩) (by go_simp) (by go_simp) (by go_simp) (hok.later (al (al (Below.refl _ V1) (.cells #[.slice xa ra.length ca] 24)) (.cells #[.int .i64 1, .bool false, .slice (some ⟨bD, 0, none⟩) 1 1] 31))))).mono ?_
        clear e0
        rintro e V2 ⟨xb, cb, rb, rfl, hrb, hmb, hb⟩
        have m9 := later (a := ⟨V1.heap.size, 0, none⟩) (v := .slice xa ra.length ca) hb (later (al (Below.refl _ _) _) (by go_simp))
        have hq := thru (al (al (Below.refl _ V1) (.cells #[.slice xa ra.length ca] 24)) (.cells #[.int .i64 1, .bool false, .slice (some ⟨bD, 0, none⟩) 1 1] 31)) hb
        replace n5 := later hq n5
        replace n7 := later hq n7
        replace n80 := later hq n80
        replace n81 := later hq n81
        replace n82 := later hq n82
        replace hrs := hrs.later hq
        replace hrt := hrt.later hq
        replace hra := hra.later hq
        replace hok := hok.later hq
        replace hBV := thru hBV hq
        clear hb hq zb5 zb7 zb8
        have HMB := Lib.hid hmb
        clear hmb
        obtain ⟨b9, hb9⟩ : ∃ b, V1.heap.size = b := ⟨_, rfl⟩
        rw [hb9] at m9 ⊢
        clear hb9
        have zb5 : b5 < V2.heap.size := World.block_lt_of_cell? _ _ n5
        have zb7 : b7 < V2.heap.size := World.block_lt_of_cell? _ _ n7
        have zb8 : b8 < V2.heap.size := World.block_lt_of_cell? _ _ n80
        have zb9 : b9 < V2.heap.size := World.block_lt_of_cell? _ _ m9
        go_wp2_with fail
        refine (HST.out _ xa ra ca (hra.later (al (Below.refl _ V2) (.cells #[.slice xb rb.length cb] 24))) (hrt.later (al (Below.refl _ V2) (.cells #[.slice xb rb.length cb] 24))) HMA.out).mono ?_
        rintro e V3 ⟨rfl, hb⟩
        have m11 := later (a := ⟨V2.heap.size, 0, none⟩) (v := .slice xb rb.length cb) hb (by go_simp)
        clear zb5 zb7 zb8 zb9
        have hq := thru (al (Below.refl _ V2) (.cells #[.slice xb rb.length cb] 24)) hb
        replace n5 := later hq n5
        replace n7 := later hq n7
        replace n80 := later hq n80
        replace n81 := later hq n81
        replace n82 := later hq n82
        replace m9 := later hq m9
        replace hrs := hrs.later hq
        replace hrt := hrt.later hq
        replace hra := hra.later hq
        replace hrb := hrb.later hq
        replace hok := hok.later hq
        replace hBV := thru hBV hq
        clear hb hq
        obtain ⟨b11, hb11⟩ : ∃ b, V2.heap.size = b := ⟨_, rfl⟩
        rw [hb11] at m11 ⊢
        clear hb11
        go_wp2_with fail
        refine (HST.out _ xb rb cb hrb hrt HMB.out).mono ?_
        rintro e V4 ⟨rfl, hb⟩
        have hq := thru (Below.refl _ V3) hb
        replace n5 := later hq n5
        replace n7 := later hq n7
        replace n80 := later hq n80
        replace n81 := later hq n81
        replace n82 := later hq n82
        replace m9 := later hq m9
        replace m11 := later hq m11
        replace hrs := hrs.later hq
        replace hrt := hrt.later hq
        replace hra := hra.later hq
        replace hrb := hrb.later hq
        replace hok := hok.later hq
        replace hBV := thru hBV hq
        clear hb hq
        go_wp2_with fail
        refine (HR1.out _ hrs).mono ?_
        rintro e V5 ⟨y1, cy1, rfl, hb⟩
        have hq := thru (Below.refl _ V4) hb
        replace n5 := later hq n5
        replace n7 := later hq n7
        replace n80 := later hq n80
        replace n81 := later hq n81
        replace n82 := later hq n82
        replace m9 := later hq m9
        replace m11 := later hq m11
        replace hrs := hrs.later hq
        replace hrt := hrt.later hq
        replace hra := hra.later hq
        replace hrb := hrb.later hq
        replace hok := hok.later hq
        replace hBV := thru hBV hq
        clear hb hq
        go_wp2_with fail
        refine (HR2.out _ hrs).mono ?_
        rintro e V6 ⟨y2, cy2, rfl, hb⟩
        have hq := thru (Below.refl _ V5) hb
        replace n5 := later hq n5
        replace n7 := later hq n7
        replace n80 := later hq n80
        replace n81 := later hq n81
        replace n82 := later hq n82
        replace m9 := later hq m9
        replace m11 := later hq m11
        replace hrs := hrs.later hq
        replace hrt := hrt.later hq
        replace hra := hra.later hq
        replace hrb := hrb.later hq
        replace hok := hok.later hq
        replace hBV := thru hBV hq
        clear hb hq
        clear n7 n80 n81 n82 m9 m11 hrt hra hrb hok HRB HCB HST HMA HMB
        go_wp2_with fail
        refine (HCN.out _ hrs).mono ?_
        rintro e V7 ⟨y3, cy3, r3, rfl, hr3, hm3, hb⟩
        have hq := thru (Below.refl _ V6) hb
        replace n5 := later hq n5
        replace hrs := hrs.later hq
        replace hBV := thru hBV hq
        clear hb hq hr3 hm3
        have z7 : b5 < V7.heap.size := World.block_lt_of_cell? _ _ n5
        go_wp2_with fail
        refine (HC0.out _ (V7.heap.size + 1) (hrs.later (al (al (Below.refl _ V7) (.cells #[.slice y3 r3.length cy3] 24)) (.cells #[.int .i64 0, .bool false, .slice none 0 0] 31))) (ops_at (o := ⟨0, false, none, 0, []⟩) (by go_simp) (by go_simp) (by go_simp) ⟨.inl rfl, fun _ => rfl, by decide, by decide, by decide, by decide⟩)).mono ?_
        rintro e V8 ⟨y4, cy4, r4, rfl, hr4, hm4, hb⟩
        have hq := thru (al (al (Below.refl _ V7) (.cells #[.slice y3 r3.length cy3] 24)) (.cells #[.int .i64 0, .bool false, .slice none 0 0] 31)) hb
        replace n5 := later hq n5
        replace hrs := hrs.later hq
        replace hBV := thru hBV hq
        clear hb hq hr4 hm4 z7
        have z8 : b5 < V8.heap.size := World.block_lt_of_cell? _ _ n5
        go_wp2_with fail
        refine (HRN.out _ (hrs.later (al (Below.refl _ V8) (.cells #[.slice y4 r4.length cy4] 24)))).mono ?_
        rintro e V9 ⟨y5, cy5, r5, rfl, hr5, hm5, hb⟩
        have hq := thru (al (Below.refl _ V8) (.cells #[.slice y4 r4.length cy4] 24)) hb
        replace n5 := later hq n5
        replace hrs := hrs.later hq
        replace hBV := thru hBV hq
        clear hb hq z8
        have HM5 := Lib.hid hm5
        clear hm5
        have z9 : b5 < V9.heap.size := World.block_lt_of_cell? _ _ n5
        go_wp2_with fail
        refine (HNW.out _).mono ?_
        rintro e V10 ⟨rfl, hb⟩
        have m21 := later (a := ⟨V9.heap.size, 0, none⟩) (v := .slice y5 r5.length cy5) hb (by go_simp)
        have hq := thru (al (Below.refl _ V9) (.cells #[.slice y5 r5.length cy5] 24)) hb
        replace n5 := later hq n5
        replace hrs := hrs.later hq
        replace hr5 := hr5.later hq
        replace hBV := thru hBV hq
        clear hb hq z9
        obtain ⟨b21, hb21⟩ : ∃ b, V9.heap.size = b := ⟨_, rfl⟩
        rw [hb21] at m21 ⊢
        clear hb21
        have z10 : b5 < V10.heap.size := World.block_lt_of_cell? _ _ n5
        have z11 : b21 < V10.heap.size := World.block_lt_of_cell? _ _ m21
        go_wp2_with fail
        refine (HSS.out _ y5 r5 cy5 (hr5.later (al (Below.refl _ V10) (.cells #[.slice none 0 0] 24))) (hrs.later (al (Below.refl _ V10) (.cells #[.slice none 0 0] 24))) HM5.out).mono ?_
        rintro e V11 ⟨rfl, hb⟩
        have hBW := thru (al hBV (.cells #[.slice none 0 0] 24)) hb
        go_wp2_with fail
        refine (awake_any _).mono ?_
        rintro e w' ⟨rfl, hb2⟩
        go_wp2_with fail
        go_ret
        exact ⟨rfl, thru hBW hb2⟩
  · refine heavyB_want (by rfl) (fun K' hK' => ?_)
    go_simp
    refine hK' _ _ ((Below.refl _ _).alloc (by omega) _) ?_
    clear hK' K'
    obtain ⟨Y1, hY1⟩ : ∃ Y, X.alloc (.cells (zeroB 53) 5) = Y := ⟨_, rfl⟩
    have hq : Below X.heap.size X Y1 := by rw [← hY1]; exact al (Below.refl _ _) _
    replace tV0 : Below V.heap.size V Y1 := by rw [← hY1]; exact tV0.alloc zX _
    have hsz : X.heap.size + 1 = Y1.heap.size := by rw [← hY1]; simp
    have hzz : OwnsB V.heap.size Y1 (some ⟨X.heap.size, 0, none⟩) 53 (List.replicate 53 0) := by rw [← hY1]; exact OwnsB.zeros _ _ 53 _ (by omega) rfl (by decide)
    rw [hY1]
    clear hY1 hq
    obtain ⟨bz, ebz⟩ : ∃ b, X.heap.size = b := ⟨_, rfl⟩
    rw [ebz]
    rw [ebz] at hzz
    have gbz : V.heap.size ≤ bz := by omega
    have lbz : bz < Y1.heap.size := by omega
    replace zX : V.heap.size ≤ Y1.heap.size := by omega
    clear ebz hsz
    try simp only [Act.put, List.setIfInBounds_toArray, List.set_cons_zero, List.set_cons_succ]
    rw [wpSchedB]
    simp only [pick, List.map_nil, Array.getD_eq_getD_getElem?, List.getElem?_toArray, List.getElem?_cons_succ, List.getElem?_cons_zero, Option.getD_some]
    refine wpQuiet_nil ?_
    refine ⟨?_, ?_⟩
    · refine heavyB_want (by rfl) (fun K' hK' => ?_)
      go_simp
      refine hK' _ _ ((Below.refl _ _).alloc (by omega) _) ?_
      clear hK' K'
      obtain ⟨Y2, hY2⟩ : ∃ Y, Y1.alloc (.cells #[] 25) = Y := ⟨_, rfl⟩
      have hq : Below Y1.heap.size Y1 Y2 := by rw [← hY2]; exact al (Below.refl _ _) _
      replace tV0 : Below V.heap.size V Y2 := by rw [← hY2]; exact tV0.alloc zX _
      have hsz : Y1.heap.size + 1 = Y2.heap.size := by rw [← hY2]; simp
      replace hzz := hzz.later hq
      have hrow : OwnsR V.heap.size Y2 (some ⟨Y1.heap.size, 0, none⟩) 0 [] := by rw [← hY2]; exact OwnsR.whole _ _ _ [] _ rfl (by omega) rfl (by simp)
      rw [hY2]
      clear hY2 hq
      obtain ⟨b0r, eb0r⟩ : ∃ b, Y1.heap.size = b := ⟨_, rfl⟩
      rw [eb0r]
      rw [eb0r] at hrow
      have dbzb0r : bz < b0r := by omega
      replace lbz : bz < Y2.heap.size := by omega
      have gb0r : V.heap.size ≤ b0r := by omega
      have lb0r : b0r < Y2.heap.size := by omega
      replace zX : V.heap.size ≤ Y2.heap.size := by omega
      clear eb0r hsz
      try simp only [Act.put, List.setIfInBounds_toArray, List.set_cons_zero, List.set_cons_succ]
      rw [wpSchedB]
      simp only [pick, List.map_nil, Array.getD_eq_getD_getElem?, List.getElem?_toArray, List.getElem?_cons_succ, List.getElem?_cons_zero, Option.getD_some]
      refine wpQuiet_nil ?_
      refine ⟨?_, ?_⟩
      · refine heavyB_want (by rfl) (fun K' hK' => ?_)
        refine wp_appRs _ _ rfl (B := V.heap.size) hrow rfl (b := gs) (q := qs) (m := 3) (rs := rs) rfl HRL.out (hrs0.later tV0).1 (by decide) (by omega) (fun xr cr Y3 h1 h2 h3 => hK' _ _ (h2.mono (by omega)) ?_)
        clear hK' K'
        replace hzz := hzz.turn h3 (fun b hb hh => hrow.apart hzz b hh hb)
        replace tV0 := tV0.trans h2
        have hsz := h2.size
        replace zX : V.heap.size ≤ Y3.heap.size := by omega
        replace lbz : bz < Y3.heap.size := by omega
        replace lb0r : b0r < Y3.heap.size := by omega
        clear hrow
        have hrow := h1
        clear h1 h2 h3 hsz
        try simp only [Act.put, List.setIfInBounds_toArray, List.set_cons_zero, List.set_cons_succ]
        rw [wpSchedB]
        simp only [pick, List.map_nil, Array.getD_eq_getD_getElem?, List.getElem?_toArray, List.getElem?_cons_succ, List.getElem?_cons_zero, Option.getD_some]
        refine wpQuiet_nil ?_
        refine heavyB_want (by rfl) (fun K' hK' => ?_)
        go_simp
        refine hK' _ _ ((Below.refl _ _).alloc (by omega) _) ?_
        clear hK' K'
        obtain ⟨Y4, hY4⟩ : ∃ Y, Y3.alloc (.cells #[.slice (some ⟨bz, 0, none⟩) 53 53] 25) = Y := ⟨_, rfl⟩
        have hq : Below Y3.heap.size Y3 Y4 := by rw [← hY4]; exact al (Below.refl _ _) _
        replace tV0 : Below V.heap.size V Y4 := by rw [← hY4]; exact tV0.alloc zX _
        have hsz : Y3.heap.size + 1 = Y4.heap.size := by rw [← hY4]; simp
        replace hrow := hrow.turn (Turns.of_below hq (Nat.le_refl _)) (fun _ _ h => h)
        replace hzz := hzz.later hq
        have ny : Y4.cell? ⟨Y3.heap.size, 0, none⟩ = some (.slice (some ⟨bz, 0, none⟩) 53 53) := by rw [← hY4]; exact cell_new Y3 _ _ _ 0
        rw [hY4]
        clear hY4 hq
        obtain ⟨by_, eby_⟩ : ∃ b, Y3.heap.size = b := ⟨_, rfl⟩
        rw [eby_]
        rw [eby_] at ny
        have dbzby_ : bz < by_ := by omega
        have db0rby_ : b0r < by_ := by omega
        replace lbz : bz < Y4.heap.size := by omega
        replace lb0r : b0r < Y4.heap.size := by omega
        have gby_ : V.heap.size ≤ by_ := by omega
        have lby_ : by_ < Y4.heap.size := by omega
        replace zX : V.heap.size ≤ Y4.heap.size := by omega
        clear eby_ hsz
        try simp only [Act.put, List.setIfInBounds_toArray, List.set_cons_zero, List.set_cons_succ]
        rw [wpSchedB]
        simp only [pick, List.map_nil, Array.getD_eq_getD_getElem?, List.getElem?_toArray, List.getElem?_cons_succ, List.getElem?_cons_zero, Option.getD_some]
        refine wpQuiet_nil ?_
        refine heavyB_want (by rfl) (fun K' hK' => ?_)
        refine wp_appR _ _ rfl (B := V.heap.size) (rs := rs) (u := ⟨some ⟨bz, 0, none⟩, 53, List.replicate 53 0⟩) hrow (by rw [HRL.out]; rfl) (ad := ⟨by_, 0, none⟩) rfl ny (by have := HRL.out; omega) (by omega) (fun xr2 cr2 Y5 h1 h2 h3 => hK' _ _ (h2.mono (by omega)) ?_)
        clear hK' K'
        rw [HL4.out]
        have hz6 := hzz.bts.turn h3 (fun a e => by cases e; exact fun hh => hrow.apart hzz bz hh rfl)
        replace tV0 := tV0.trans h2
        have hsz := h2.size
        replace zX : V.heap.size ≤ Y5.heap.size := by omega
        clear hrow
        have hrow := h1
        clear h1 h2 h3 hsz hzz ny
        try simp only [Act.put, List.setIfInBounds_toArray, List.set_cons_zero, List.set_cons_succ]
        rw [wpSchedB]
        simp only [pick, List.map_cons, List.map_nil, Array.getD_eq_getD_getElem?, List.getElem?_toArray, List.getElem?_cons_succ, List.getElem?_cons_zero, Option.getD_some]
        repeat (first | go_big_quiet_step (fail) | quiet_step (fail))
        refine wpQuiet_nil ?_
        have n7x := later tV0 n7
        have f7x := (Below.frozen tV0 (p := ⟨b7, 0, none⟩) (by simp; omega)).trans f7
        refine heavyB_want (by rfl) (fun K' hK' => ?_)
        go_simp
        refine hK' _ _ ((Below.refl _ _).setCell (p := ⟨b7, 0, none⟩) (Nat.le_refl _) _) ?_
        clear hK' K' f7x
        obtain ⟨Z, hZ⟩ : ∃ Y, Y5.setCell ⟨b7, 0, none⟩ (.slice xr2 4 cr2) = Y := ⟨_, rfl⟩
        have ts : Turns (fun b => b = b7) Y5 Z := by rw [← hZ]; exact (Turns.refl (fun b => b = b7) Y5).setCell (p := ⟨b7, 0, none⟩) (fun _ => rfl) _
        have n7z : Z.cell? ⟨b7, 0, none⟩ = some (.slice xr2 4 cr2) := by rw [← hZ]; exact World.cell?_setCell_same' _ _ _ (by rw [n7x]; rfl)
        rw [hZ]
        clear hZ n7x
        try simp only [Act.put, List.setIfInBounds_toArray, List.set_cons_zero, List.set_cons_succ]
        rw [wpSchedB]
        simp only [List.map_nil]
        refine wpQuiet_nil ?_
        have tVZ : Turns (fun b => b = b7) V Z := (Turns.of_below (T := fun b => b = b7) tV0 (Nat.le_refl _)).trans ts
        have hwZ : Below w1.heap.size w1 Z := hw1V.trans (tVZ.below hw1V.size (fun i hi e => by omega))
        have hBZ := thru hB1 hwZ
        have n5z := tVZ.cell (p := ⟨b5, 0, none⟩) (by simp; omega) n5
        have n80z := tVZ.cell (p := ⟨b8, 0, none⟩) (by simp; omega) n80
        have n81z := tVZ.cell (p := ⟨b8, 1, none⟩) (by simp; omega) n81
        have n82z := tVZ.cell (p := ⟨b8, 2, none⟩) (by simp; omega) n82
        have hokz : OpOk Z ⟨1, false, some ⟨bD, 0, none⟩, 1, [5]⟩ := ⟨hok.1.turn tVZ (fun a e => by cases e; simp; omega), hok.2⟩
        have hrsz := hrs1.later hwZ
        have hz7 := hz6.turn ts (fun a e => by cases e; simp; omega)
        have hrtz : Rws Z xr2 (rs ++ [⟨some ⟨bz, 0, none⟩, 53, List.replicate 53 0⟩]) := by
          refine ⟨(hrow.turn ts (fun b hb e => by have := (hrow.low b hb).1; omega)).cellsR, fun r hr => ?_⟩
          rcases List.mem_append.1 hr with hr | hr
          · exact hrsz.2 r hr
          · obtain rfl : r = ⟨some ⟨bz, 0, none⟩, 53, List.replicate 53 0⟩ := by simpa using hr
            exact ⟨hz7, (fun h => by cases h), by simp, by simp⟩
        have hmt : (rs ++ [(⟨some ⟨bz, 0, none⟩, 53, List.replicate 53 0⟩ : Rw)]).map (·.l) = [erasedL, erasedL, erasedL, List.replicate 53 0] := by rw [List.map_append, HLS.out]; rfl
        have hl4 := HL4.out bz
        obtain ⟨rt, hrt_⟩ : ∃ rt : List Rw, rs ++ [⟨some ⟨bz, 0, none⟩, 53, List.replicate 53 0⟩] = rt := ⟨_, rfl⟩
        rw [hrt_] at hrtz hmt hl4
        clear hrt_ hrow hz6 hz7 ts tV0 tVZ n5 n7 n80 n81 n82 f7 hok hw1V hrs0 hBV zX lbz lb0r lby_
        obtain ⟨n5, n7, n80, n81, n82, hBV, hok, hrs, hrt⟩ := (⟨n5z, n7z, n80z, n81z, n82z, hBZ, hokz, hrsz, hrtz⟩ : _ ∧ _ ∧ _ ∧ _ ∧ _ ∧ _ ∧ _ ∧ _ ∧ _)
        clear n5z n7z n80z n81z n82z hBZ hokz hrsz hrtz hwZ hrs1 hB1
        have hbad : vldO (rt.map (·.l)) [⟨1, false, some ⟨bD, 0, none⟩, 1, [5]⟩] = false := by
          rw [Bool.eq_false_iff]
          intro h
          have h1 := ((vldS_iff _).1 ((vldO_iff _ _).1 h).1).2
          rw [hmt] at h1
          have := h1 (List.replicate 53 0) (by simp)
          simp at this
        have hl5 : ∀ l, l ∈ rt.map (·.l) → l.length ≤ 100000 := fun l hl => by
          rw [hmt] at hl
          simp only [List.mem_cons, List.not_mem_nil, or_false] at hl
          rcases hl with rfl | rfl | rfl | rfl
          · rw [erasedL_len]; decide
          · rw [erasedL_len]; decide
          · rw [erasedL_len]; decide
          · simp
        have HRB := Lib.hid (run_bad xr2 rt cr2 4 ⟨1, false, some ⟨bD, 0, none⟩, 1, [5]⟩ hl4 (by decide) hl5 hbad)
        have HCB := Lib.hid (cut_bad xr2 rt cr2 4 ⟨1, false, some ⟨bD, 0, none⟩, 1, [5]⟩ 0 0 hl4 (by decide) hl5 (by unfold cutOk; rw [hbad]; rfl))
        have HST := Lib.hid (same_yes xr2 rt cr2 4 hl4 (by decide))
        clear hbad hl5 hmt hl4
        obtain ⟨V9, hV⟩ : ∃ V9, Z = V9 := ⟨_, rfl⟩
        rw [hV] at n5 n7 n80 n81 n82 hBV hok hrs hrt ⊢
        clear hV
        go_wp2_with fail
        refine (HRB.out _ V9.heap.size (hrt.later (al (Below.refl _ V9) (.cells #[.int .i64 1, .bool false, .slice (some ⟨bD, 0, none⟩) 1 1] 31))) (ops_at (o := ⟨1, false, some ⟨bD, 0, none⟩, 1, [5]⟩) (cell_new V9 _ _ _ 0) (cell_new V9 _ _ _ 1) (cell_new V9 _ _ _ 2) (hok.later (al (Below.refl _ V9) (.cells #[.int .i64 1, .bool false, .slice (some ⟨bD, 0, none⟩) 1 1] 31))))).mono ?_
        rintro e V1 ⟨xa, ca, ra, rfl, hra, hma, hb⟩
        have hq := thru (al (Below.refl _ V9) (.cells #[.int .i64 1, .bool false, .slice (some ⟨bD, 0, none⟩) 1 1] 31)) hb
        replace n5 := later hq n5
        replace n7 := later hq n7
        replace n80 := later hq n80
        replace n81 := later hq n81
        replace n82 := later hq n82
        replace hrs := hrs.later hq
        replace hrt := hrt.later hq
        replace hok := hok.later hq
        replace hBV := thru hBV hq
        clear hb hq
        have HMA := Lib.hid hma
        clear hma
        have zb5 : b5 < V1.heap.size := World.block_lt_of_cell? _ _ n5
        have zb7 : b7 < V1.heap.size := World.block_lt_of_cell? _ _ n7
        have zb8 : b8 < V1.heap.size := World.block_lt_of_cell? _ _ n80
        go_wp2_with fail
        have e0 : ((V1.alloc (.cells #[.slice xa ra.length ca] 24)).alloc (.cells #[.int .i64 1, .bool false, .slice (some ⟨bD, 0, none⟩) 1 1] 31)).heap.size = V1.heap.size + 2 := by simp
        refine (HCB.out _ (V1.heap.size + 1) (hrt.later (al (al (Below.refl _ V1) (.cells #[.slice xa ra.length ca] 24)) (.cells #[.int .i64 1, .bool false, .slice (some ⟨bD, 0, none⟩) 1 1] 31))) (ops_at (o := ⟨1, false, some ⟨bD, 0, none⟩, 1, [5]⟩) (by go_simp) (by go_simp) (by go_simp) (hok.later (al (al (Below.refl _ V1) (.cells #[.slice xa ra.length ca] 24)) (.cells #[.int .i64 1, .bool false, .slice (some ⟨bD, 0, none⟩) 1 1] 31))))).mono ?_
        clear e0
        rintro e V2 ⟨xb, cb, rb, rfl, hrb, hmb, hb⟩
        have m9 := later (a := ⟨V1.heap.size, 0, none⟩) (v := .slice xa ra.length ca) hb (later (al (Below.refl _ _) _) (by go_simp))
        have hq := thru (al (al (Below.refl _ V1) (.cells #[.slice xa ra.length ca] 24)) (.cells #[.int .i64 1, .bool false, .slice (some ⟨bD, 0, none⟩) 1 1] 31)) hb
        replace n5 := later hq n5
        replace n7 := later hq n7
        replace n80 := later hq n80
        replace n81 := later hq n81
        replace n82 := later hq n82
        replace hrs := hrs.later hq
        replace hrt := hrt.later hq
        replace hra := hra.later hq
        replace hok := hok.later hq
        replace hBV := thru hBV hq
        clear hb hq zb5 zb7 zb8
        have HMB := Lib.hid hmb
        clear hmb
        obtain ⟨b9, hb9⟩ : ∃ b, V1.heap.size = b := ⟨_, rfl⟩
        rw [hb9] at m9 ⊢
        clear hb9
        have zb5 : b5 < V2.heap.size := World.block_lt_of_cell? _ _ n5
        have zb7 : b7 < V2.heap.size := World.block_lt_of_cell? _ _ n7
        have zb8 : b8 < V2.heap.size := World.block_lt_of_cell? _ _ n80
        have zb9 : b9 < V2.heap.size := World.block_lt_of_cell? _ _ m9
        go_wp2_with fail
        refine (HST.out _ xa ra ca (hra.later (al (Below.refl _ V2) (.cells #[.slice xb rb.length cb] 24))) (hrt.later (al (Below.refl _ V2) (.cells #[.slice xb rb.length cb] 24))) HMA.out).mono ?_
        rintro e V3 ⟨rfl, hb⟩
        have m11 := later (a := ⟨V2.heap.size, 0, none⟩) (v := .slice xb rb.length cb) hb (by go_simp)
        clear zb5 zb7 zb8 zb9
        have hq := thru (al (Below.refl _ V2) (.cells #[.slice xb rb.length cb] 24)) hb
        replace n5 := later hq n5
        replace n7 := later hq n7
        replace n80 := later hq n80
        replace n81 := later hq n81
        replace n82 := later hq n82
        replace m9 := later hq m9
        replace hrs := hrs.later hq
        replace hrt := hrt.later hq
        replace hra := hra.later hq
        replace hrb := hrb.later hq
        replace hok := hok.later hq
        replace hBV := thru hBV hq
        clear hb hq
        obtain ⟨b11, hb11⟩ : ∃ b, V2.heap.size = b := ⟨_, rfl⟩
        rw [hb11] at m11 ⊢
        clear hb11
        go_wp2_with fail
        refine (HST.out _ xb rb cb hrb hrt HMB.out).mono ?_
        rintro e V4 ⟨rfl, hb⟩
        have hq := thru (Below.refl _ V3) hb
        replace n5 := later hq n5
        replace n7 := later hq n7
        replace n80 := later hq n80
        replace n81 := later hq n81
        replace n82 := later hq n82
        replace m9 := later hq m9
        replace m11 := later hq m11
        replace hrs := hrs.later hq
        replace hrt := hrt.later hq
        replace hra := hra.later hq
        replace hrb := hrb.later hq
        replace hok := hok.later hq
        replace hBV := thru hBV hq
        clear hb hq
        go_wp2_with fail
        refine (HR1.out _ hrs).mono ?_
        rintro e V5 ⟨y1, cy1, rfl, hb⟩
        have hq := thru (Below.refl _ V4) hb
        replace n5 := later hq n5
        replace n7 := later hq n7
        replace n80 := later hq n80
        replace n81 := later hq n81
        replace n82 := later hq n82
        replace m9 := later hq m9
        replace m11 := later hq m11
        replace hrs := hrs.later hq
        replace hrt := hrt.later hq
        replace hra := hra.later hq
        replace hrb := hrb.later hq
        replace hok := hok.later hq
        replace hBV := thru hBV hq
        clear hb hq
        go_wp2_with fail
        refine (HR2.out _ hrs).mono ?_
        rintro e V6 ⟨y2, cy2, rfl, hb⟩
        have hq := thru (Below.refl _ V5) hb
        replace n5 := later hq n5
        replace n7 := later hq n7
        replace n80 := later hq n80
        replace n81 := later hq n81
        replace n82 := later hq n82
        replace m9 := later hq m9
        replace m11 := later hq m11
        replace hrs := hrs.later hq
        replace hrt := hrt.later hq
        replace hra := hra.later hq
        replace hrb := hrb.later hq
        replace hok := hok.later hq
        replace hBV := thru hBV hq
        clear hb hq
        clear n7 n80 n81 n82 m9 m11 hrt hra hrb hok HRB HCB HST HMA HMB
        go_wp2_with fail
        refine (HCN.out _ hrs).mono ?_
        rintro e V7 ⟨y3, cy3, r3, rfl, hr3, hm3, hb⟩
        have hq := thru (Below.refl _ V6) hb
        replace n5 := later hq n5
        replace hrs := hrs.later hq
        replace hBV := thru hBV hq
        clear hb hq hr3 hm3
        have z7 : b5 < V7.heap.size := World.block_lt_of_cell? _ _ n5
        go_wp2_with fail
        refine (HC0.out _ (V7.heap.size + 1) (hrs.later (al (al (Below.refl _ V7) (.cells #[.slice y3 r3.length cy3] 24)) (.cells #[.int .i64 0, .bool false, .slice none 0 0] 31))) (ops_at (o := ⟨0, false, none, 0, []⟩) (by go_simp) (by go_simp) (by go_simp) ⟨.inl rfl, fun _ => rfl, by decide, by decide, by decide, by decide⟩)).mono ?_
        rintro e V8 ⟨y4, cy4, r4, rfl, hr4, hm4, hb⟩
        have hq := thru (al (al (Below.refl _ V7) (.cells #[.slice y3 r3.length cy3] 24)) (.cells #[.int .i64 0, .bool false, .slice none 0 0] 31)) hb
        replace n5 := later hq n5
        replace hrs := hrs.later hq
        replace hBV := thru hBV hq
        clear hb hq hr4 hm4 z7
        have z8 : b5 < V8.heap.size := World.block_lt_of_cell? _ _ n5
        go_wp2_with fail
        refine (HRN.out _ (hrs.later (al (Below.refl _ V8) (.cells #[.slice y4 r4.length cy4] 24)))).mono ?_
        rintro e V9 ⟨y5, cy5, r5, rfl, hr5, hm5, hb⟩
        have hq := thru (al (Below.refl _ V8) (.cells #[.slice y4 r4.length cy4] 24)) hb
        replace n5 := later hq n5
        replace hrs := hrs.later hq
        replace hBV := thru hBV hq
        clear hb hq z8
        have HM5 := Lib.hid hm5
        clear hm5
        have z9 : b5 < V9.heap.size := World.block_lt_of_cell? _ _ n5
        go_wp2_with fail
        refine (HNW.out _).mono ?_
        rintro e V10 ⟨rfl, hb⟩
        have m21 := later (a := ⟨V9.heap.size, 0, none⟩) (v := .slice y5 r5.length cy5) hb (by go_simp)
        have hq := thru (al (Below.refl _ V9) (.cells #[.slice y5 r5.length cy5] 24)) hb
        replace n5 := later hq n5
        replace hrs := hrs.later hq
        replace hr5 := hr5.later hq
        replace hBV := thru hBV hq
        clear hb hq z9
        obtain ⟨b21, hb21⟩ : ∃ b, V9.heap.size = b := ⟨_, rfl⟩
        rw [hb21] at m21 ⊢
        clear hb21
        have z10 : b5 < V10.heap.size := World.block_lt_of_cell? _ _ n5
        have z11 : b21 < V10.heap.size := World.block_lt_of_cell? _ _ m21
        go_wp2_with fail
        refine (HSS.out _ y5 r5 cy5 (hr5.later (al (Below.refl _ V10) (.cells #[.slice none 0 0] 24))) (hrs.later (al (Below.refl _ V10) (.cells #[.slice none 0 0] 24))) HM5.out).mono ?_
        rintro e V11 ⟨rfl, hb⟩
        have hBW := thru (al hBV (.cells #[.slice none 0 0] 24)) hb
        go_wp2_with fail
        refine (awake_any _).mono ?_
        rintro e w' ⟨rfl, hb2⟩
        go_wp2_with fail
        go_ret
        exact ⟨rfl, thru hBW hb2⟩
      · refine heavyB_want (by rfl) (fun K' hK' => ?_)
        go_simp
        refine hK' _ _ ((Below.refl _ _).alloc (by omega) _) ?_
        clear hK' K'
        obtain ⟨Y3, hY3⟩ : ∃ Y, Y2.alloc (.cells #[.slice (some ⟨bz, 0, none⟩) 53 53] 25) = Y := ⟨_, rfl⟩
        have hq : Below Y2.heap.size Y2 Y3 := by rw [← hY3]; exact al (Below.refl _ _) _
        replace tV0 : Below V.heap.size V Y3 := by rw [← hY3]; exact tV0.alloc zX _
        have hsz : Y2.heap.size + 1 = Y3.heap.size := by rw [← hY3]; simp
        replace hrow := hrow.turn (Turns.of_below hq (Nat.le_refl _)) (fun _ _ h => h)
        replace hzz := hzz.later hq
        have ny : Y3.cell? ⟨Y2.heap.size, 0, none⟩ = some (.slice (some ⟨bz, 0, none⟩) 53 53) := by rw [← hY3]; exact cell_new Y2 _ _ _ 0
        rw [hY3]
        clear hY3 hq
        obtain ⟨by_, eby_⟩ : ∃ b, Y2.heap.size = b := ⟨_, rfl⟩
        rw [eby_]
        rw [eby_] at ny
        have dbzby_ : bz < by_ := by omega
        have db0rby_ : b0r < by_ := by omega
        replace lbz : bz < Y3.heap.size := by omega
        replace lb0r : b0r < Y3.heap.size := by omega
        have gby_ : V.heap.size ≤ by_ := by omega
        have lby_ : by_ < Y3.heap.size := by omega
        replace zX : V.heap.size ≤ Y3.heap.size := by omega
        clear eby_ hsz
        try simp only [Act.put, List.setIfInBounds_toArray, List.set_cons_zero, List.set_cons_succ]
        rw [wpSchedB]
        simp only [pick, List.map_nil, Array.getD_eq_getD_getElem?, List.getElem?_toArray, List.getElem?_cons_succ, List.getElem?_cons_zero, Option.getD_some]
        refine wpQuiet_nil ?_
        refine heavyB_want (by rfl) (fun K' hK' => ?_)
        refine wp_appRs _ _ rfl (B := V.heap.size) hrow rfl (b := gs) (q := qs) (m := 3) (rs := rs) rfl HRL.out (hrs0.later tV0).1 (by decide) (by omega) (fun xr cr Y4 h1 h2 h3 => hK' _ _ (h2.mono (by omega)) ?_)
        clear hK' K'
        replace hzz := hzz.turn h3 (fun b hb hh => hrow.apart hzz b hh hb)
        replace ny := h3.cell (p := ⟨by_, 0, none⟩) (fun e => by have e2 : b0r = by_ := Option.some.inj e; omega) ny
        replace tV0 := tV0.trans h2
        have hsz := h2.size
        replace zX : V.heap.size ≤ Y4.heap.size := by omega
        replace lbz : bz < Y4.heap.size := by omega
        replace lb0r : b0r < Y4.heap.size := by omega
        replace lby_ : by_ < Y4.heap.size := by omega
        clear hrow
        have hrow := h1
        clear h1 h2 h3 hsz
        try simp only [Act.put, List.setIfInBounds_toArray, List.set_cons_zero, List.set_cons_succ]
        rw [wpSchedB]
        simp only [pick, List.map_nil, Array.getD_eq_getD_getElem?, List.getElem?_toArray, List.getElem?_cons_succ, List.getElem?_cons_zero, Option.getD_some]
        refine wpQuiet_nil ?_
        refine heavyB_want (by rfl) (fun K' hK' => ?_)
        refine wp_appR _ _ rfl (B := V.heap.size) (rs := rs) (u := ⟨some ⟨bz, 0, none⟩, 53, List.replicate 53 0⟩) hrow (by rw [HRL.out]; rfl) (ad := ⟨by_, 0, none⟩) rfl ny (by have := HRL.out; omega) (by omega) (fun xr2 cr2 Y5 h1 h2 h3 => hK' _ _ (h2.mono (by omega)) ?_)
        clear hK' K'
        rw [HL4.out]
        have hz6 := hzz.bts.turn h3 (fun a e => by cases e; exact fun hh => hrow.apart hzz bz hh rfl)
        replace tV0 := tV0.trans h2
        have hsz := h2.size
        replace zX : V.heap.size ≤ Y5.heap.size := by omega
        clear hrow
        have hrow := h1
        clear h1 h2 h3 hsz hzz ny
        try simp only [Act.put, List.setIfInBounds_toArray, List.set_cons_zero, List.set_cons_succ]
        rw [wpSchedB]
        simp only [pick, List.map_cons, List.map_nil, Array.getD_eq_getD_getElem?, List.getElem?_toArray, List.getElem?_cons_succ, List.getElem?_cons_zero, Option.getD_some]
        repeat (first | go_big_quiet_step (fail) | quiet_step (fail))
        refine wpQuiet_nil ?_
        have n7x := later tV0 n7
        have f7x := (Below.frozen tV0 (p := ⟨b7, 0, none⟩) (by simp; omega)).trans f7
        refine heavyB_want (by rfl) (fun K' hK' => ?_)
        go_simp
        refine hK' _ _ ((Below.refl _ _).setCell (p := ⟨b7, 0, none⟩) (Nat.le_refl _) _) ?_
        clear hK' K' f7x
        obtain ⟨Z, hZ⟩ : ∃ Y, Y5.setCell ⟨b7, 0, none⟩ (.slice xr2 4 cr2) = Y := ⟨_, rfl⟩
        have ts : Turns (fun b => b = b7) Y5 Z := by rw [← hZ]; exact (Turns.refl (fun b => b = b7) Y5).setCell (p := ⟨b7, 0, none⟩) (fun _ => rfl) _
        have n7z : Z.cell? ⟨b7, 0, none⟩ = some (.slice xr2 4 cr2) := by rw [← hZ]; exact World.cell?_setCell_same' _ _ _ (by rw [n7x]; rfl)
        rw [hZ]
        clear hZ n7x
        try simp only [Act.put, List.setIfInBounds_toArray, List.set_cons_zero, List.set_cons_succ]
        rw [wpSchedB]
        simp only [List.map_nil]
        refine wpQuiet_nil ?_
        have tVZ : Turns (fun b => b = b7) V Z := (Turns.of_below (T := fun b => b = b7) tV0 (Nat.le_refl _)).trans ts
        have hwZ : Below w1.heap.size w1 Z := hw1V.trans (tVZ.below hw1V.size (fun i hi e => by omega))
        have hBZ := thru hB1 hwZ
        have n5z := tVZ.cell (p := ⟨b5, 0, none⟩) (by simp; omega) n5
        have n80z := tVZ.cell (p := ⟨b8, 0, none⟩) (by simp; omega) n80
        have n81z := tVZ.cell (p := ⟨b8, 1, none⟩) (by simp; omega) n81
        have n82z := tVZ.cell (p := ⟨b8, 2, none⟩) (by simp; omega) n82
        have hokz : OpOk Z ⟨1, false, some ⟨bD, 0, none⟩, 1, [5]⟩ := ⟨hok.1.turn tVZ (fun a e => by cases e; simp; omega), hok.2⟩
        have hrsz := hrs1.later hwZ
        have hz7 := hz6.turn ts (fun a e => by cases e; simp; omega)
        have hrtz : Rws Z xr2 (rs ++ [⟨some ⟨bz, 0, none⟩, 53, List.replicate 53 0⟩]) := by
          refine ⟨(hrow.turn ts (fun b hb e => by have := (hrow.low b hb).1; omega)).cellsR, fun r hr => ?_⟩
          rcases List.mem_append.1 hr with hr | hr
          · exact hrsz.2 r hr
          · obtain rfl : r = ⟨some ⟨bz, 0, none⟩, 53, List.replicate 53 0⟩ := by simpa using hr
            exact ⟨hz7, (fun h => by cases h), by simp, by simp⟩
        have hmt : (rs ++ [(⟨some ⟨bz, 0, none⟩, 53, List.replicate 53 0⟩ : Rw)]).map (·.l) = [erasedL, erasedL, erasedL, List.replicate 53 0] := by rw [List.map_append, HLS.out]; rfl
        have hl4 := HL4.out bz
        obtain ⟨rt, hrt_⟩ : ∃ rt : List Rw, rs ++ [⟨some ⟨bz, 0, none⟩, 53, List.replicate 53 0⟩] = rt := ⟨_, rfl⟩
        rw [hrt_] at hrtz hmt hl4
        clear hrt_ hrow hz6 hz7 ts tV0 tVZ n5 n7 n80 n81 n82 f7 hok hw1V hrs0 hBV zX lbz lb0r lby_
        obtain ⟨n5, n7, n80, n81, n82, hBV, hok, hrs, hrt⟩ := (⟨n5z, n7z, n80z, n81z, n82z, hBZ, hokz, hrsz, hrtz⟩ : _ ∧ _ ∧ _ ∧ _ ∧ _ ∧ _ ∧ _ ∧ _ ∧ _)
        clear n5z n7z n80z n81z n82z hBZ hokz hrsz hrtz hwZ hrs1 hB1
        have hbad : vldO (rt.map (·.l)) [⟨1, false, some ⟨bD, 0, none⟩, 1, [5]⟩] = false := by
          rw [Bool.eq_false_iff]
          intro h
          have h1 := ((vldS_iff _).1 ((vldO_iff _ _).1 h).1).2
          rw [hmt] at h1
          have := h1 (List.replicate 53 0) (by simp)
          simp at this
        have hl5 : ∀ l, l ∈ rt.map (·.l) → l.length ≤ 100000 := fun l hl => by
          rw [hmt] at hl
          simp only [List.mem_cons, List.not_mem_nil, or_false] at hl
          rcases hl with rfl | rfl | rfl | rfl
          · rw [erasedL_len]; decide
          · rw [erasedL_len]; decide
          · rw [erasedL_len]; decide
          · simp
        have HRB := Lib.hid (run_bad xr2 rt cr2 4 ⟨1, false, some ⟨bD, 0, none⟩, 1, [5]⟩ hl4 (by decide) hl5 hbad)
        have HCB := Lib.hid (cut_bad xr2 rt cr2 4 ⟨1, false, some ⟨bD, 0, none⟩, 1, [5]⟩ 0 0 hl4 (by decide) hl5 (by unfold cutOk; rw [hbad]; rfl))
        have HST := Lib.hid (same_yes xr2 rt cr2 4 hl4 (by decide))
        clear hbad hl5 hmt hl4
        obtain ⟨V9, hV⟩ : ∃ V9, Z = V9 := ⟨_, rfl⟩
        rw [hV] at n5 n7 n80 n81 n82 hBV hok hrs hrt ⊢
        clear hV
        go_wp2_with fail
        refine (HRB.out _ V9.heap.size (hrt.later (al (Below.refl _ V9) (.cells #[.int .i64 1, .bool false, .slice (some ⟨bD, 0, none⟩) 1 1] 31))) (ops_at (o := ⟨1, false, some ⟨bD, 0, none⟩, 1, [5]⟩) (cell_new V9 _ _ _ 0) (cell_new V9 _ _ _ 1) (cell_new V9 _ _ _ 2) (hok.later (al (Below.refl _ V9) (.cells #[.int .i64 1, .bool false, .slice (some ⟨bD, 0, none⟩) 1 1] 31))))).mono ?_
        rintro e V1 ⟨xa, ca, ra, rfl, hra, hma, hb⟩
        have hq := thru (al (Below.refl _ V9) (.cells #[.int .i64 1, .bool false, .slice (some ⟨bD, 0, none⟩) 1 1] 31)) hb
        replace n5 := later hq n5
        replace n7 := later hq n7
        replace n80 := later hq n80
        replace n81 := later hq n81
        replace n82 := later hq n82
        replace hrs := hrs.later hq
        replace hrt := hrt.later hq
        replace hok := hok.later hq
        replace hBV := thru hBV hq
        clear hb hq
        have HMA := Lib.hid hma
        clear hma
        have zb5 : b5 < V1.heap.size := World.block_lt_of_cell? _ _ n5
        have zb7 : b7 < V1.heap.size := World.block_lt_of_cell? _ _ n7
        have zb8 : b8 < V1.heap.size := World.block_lt_of_cell? _ _ n80
        go_wp2_with fail
        have e0 : ((V1.alloc (.cells #[.slice xa ra.length ca] 24)).alloc (.cells #[.int .i64 1, .bool false, .slice (some ⟨bD, 0, none⟩) 1 1] 31)).heap.size = V1.heap.size + 2 := by simp
        refine (HCB.out _ (V1.heap.size + 1) (hrt.later (al (al (Below.refl _ V1) (.cells #[.slice xa ra.length ca] 24)) (.cells #[.int .i64 1, .bool false, .slice (some ⟨bD, 0, none⟩) 1 1] 31))) (ops_at (o := ⟨1, false, some ⟨bD, 0, none⟩, 1, [5]⟩) (by go_simp) (by go_simp) (by go_simp) (hok.later (al (al (Below.refl _ V1) (.cells #[.slice xa ra.length ca] 24)) (.cells #[.int .i64 1, .bool false, .slice (some ⟨bD, 0, none⟩) 1 1] 31))))).mono ?_
        clear e0
        rintro e V2 ⟨xb, cb, rb, rfl, hrb, hmb, hb⟩
        have m9 := later (a := ⟨V1.heap.size, 0, none⟩) (v := .slice xa ra.length ca) hb (later (al (Below.refl _ _) _) (by go_simp))
        have hq := thru (al (al (Below.refl _ V1) (.cells #[.slice xa ra.length ca] 24)) (.cells #[.int .i64 1, .bool false, .slice (some ⟨bD, 0, none⟩) 1 1] 31)) hb
        replace n5 := later hq n5
        replace n7 := later hq n7
        replace n80 := later hq n80
        replace n81 := later hq n81
        replace n82 := later hq n82
        replace hrs := hrs.later hq
        replace hrt := hrt.later hq
        replace hra := hra.later hq
        replace hok := hok.later hq
        replace hBV := thru hBV hq
        clear hb hq zb5 zb7 zb8
        have HMB := Lib.hid hmb
        clear hmb
        obtain ⟨b9, hb9⟩ : ∃ b, V1.heap.size = b := ⟨_, rfl⟩
        rw [hb9] at m9 ⊢
        clear hb9
        have zb5 : b5 < V2.heap.size := World.block_lt_of_cell? _ _ n5
        have zb7 : b7 < V2.heap.size := World.block_lt_of_cell? _ _ n7
        have zb8 : b8 < V2.heap.size := World.block_lt_of_cell? _ _ n80
        have zb9 : b9 < V2.heap.size := World.block_lt_of_cell? _ _ m9
        go_wp2_with fail
        refine (HST.out _ xa ra ca (hra.later (al (Below.refl _ V2) (.cells #[.slice xb rb.length cb] 24))) (hrt.later (al (Below.refl _ V2) (.cells #[.slice xb rb.length cb] 24))) HMA.out).mono ?_
        rintro e V3 ⟨rfl, hb⟩
        have m11 := later (a := ⟨V2.heap.size, 0, none⟩) (v := .slice xb rb.length cb) hb (by go_simp)
        clear zb5 zb7 zb8 zb9
        have hq := thru (al (Below.refl _ V2) (.cells #[.slice xb rb.length cb] 24)) hb
        replace n5 := later hq n5
        replace n7 := later hq n7
        replace n80 := later hq n80
        replace n81 := later hq n81
        replace n82 := later hq n82
        replace m9 := later hq m9
        replace hrs := hrs.later hq
        replace hrt := hrt.later hq
        replace hra := hra.later hq
        replace hrb := hrb.later hq
        replace hok := hok.later hq
        replace hBV := thru hBV hq
        clear hb hq
        obtain ⟨b11, hb11⟩ : ∃ b, V2.heap.size = b := ⟨_, rfl⟩
        rw [hb11] at m11 ⊢
        clear hb11
        go_wp2_with fail
        refine (HST.out _ xb rb cb hrb hrt HMB.out).mono ?_
        rintro e V4 ⟨rfl, hb⟩
        have hq := thru (Below.refl _ V3) hb
        replace n5 := later hq n5
        replace n7 := later hq n7
        replace n80 := later hq n80
        replace n81 := later hq n81
        replace n82 := later hq n82
        replace m9 := later hq m9
        replace m11 := later hq m11
        replace hrs := hrs.later hq
        replace hrt := hrt.later hq
        replace hra := hra.later hq
        replace hrb := hrb.later hq
        replace hok := hok.later hq
        replace hBV := thru hBV hq
        clear hb hq
        go_wp2_with fail
        refine (HR1.out _ hrs).mono ?_
        rintro e V5 ⟨y1, cy1, rfl, hb⟩
        have hq := thru (Below.refl _ V4) hb
        replace n5 := later hq n5
        replace n7 := later hq n7
        replace n80 := later hq n80
        replace n81 := later hq n81
        replace n82 := later hq n82
        replace m9 := later hq m9
        replace m11 := later hq m11
        replace hrs := hrs.later hq
        replace hrt := hrt.later hq
        replace hra := hra.later hq
        replace hrb := hrb.later hq
        replace hok := hok.later hq
        replace hBV := thru hBV hq
        clear hb hq
        go_wp2_with fail
        refine (HR2.out _ hrs).mono ?_
        rintro e V6 ⟨y2, cy2, rfl, hb⟩
        have hq := thru (Below.refl _ V5) hb
        replace n5 := later hq n5
        replace n7 := later hq n7
        replace n80 := later hq n80
        replace n81 := later hq n81
        replace n82 := later hq n82
        replace m9 := later hq m9
        replace m11 := later hq m11
        replace hrs := hrs.later hq
        replace hrt := hrt.later hq
        replace hra := hra.later hq
        replace hrb := hrb.later hq
        replace hok := hok.later hq
        replace hBV := thru hBV hq
        clear hb hq
        clear n7 n80 n81 n82 m9 m11 hrt hra hrb hok HRB HCB HST HMA HMB
        go_wp2_with fail
        refine (HCN.out _ hrs).mono ?_
        rintro e V7 ⟨y3, cy3, r3, rfl, hr3, hm3, hb⟩
        have hq := thru (Below.refl _ V6) hb
        replace n5 := later hq n5
        replace hrs := hrs.later hq
        replace hBV := thru hBV hq
        clear hb hq hr3 hm3
        have z7 : b5 < V7.heap.size := World.block_lt_of_cell? _ _ n5
        go_wp2_with fail
        refine (HC0.out _ (V7.heap.size + 1) (hrs.later (al (al (Below.refl _ V7) (.cells #[.slice y3 r3.length cy3] 24)) (.cells #[.int .i64 0, .bool false, .slice none 0 0] 31))) (ops_at (o := ⟨0, false, none, 0, []⟩) (by go_simp) (by go_simp) (by go_simp) ⟨.inl rfl, fun _ => rfl, by decide, by decide, by decide, by decide⟩)).mono ?_
        rintro e V8 ⟨y4, cy4, r4, rfl, hr4, hm4, hb⟩
        have hq := thru (al (al (Below.refl _ V7) (.cells #[.slice y3 r3.length cy3] 24)) (.cells #[.int .i64 0, .bool false, .slice none 0 0] 31)) hb
        replace n5 := later hq n5
        replace hrs := hrs.later hq
        replace hBV := thru hBV hq
        clear hb hq hr4 hm4 z7
        have z8 : b5 < V8.heap.size := World.block_lt_of_cell? _ _ n5
        go_wp2_with fail
        refine (HRN.out _ (hrs.later (al (Below.refl _ V8) (.cells #[.slice y4 r4.length cy4] 24)))).mono ?_
        rintro e V9 ⟨y5, cy5, r5, rfl, hr5, hm5, hb⟩
        have hq := thru (al (Below.refl _ V8) (.cells #[.slice y4 r4.length cy4] 24)) hb
        replace n5 := later hq n5
        replace hrs := hrs.later hq
        replace hBV := thru hBV hq
        clear hb hq z8
        have HM5 := Lib.hid hm5
        clear hm5
        have z9 : b5 < V9.heap.size := World.block_lt_of_cell? _ _ n5
        go_wp2_with fail
        refine (HNW.out _).mono ?_
        rintro e V10 ⟨rfl, hb⟩
        have m21 := later (a := ⟨V9.heap.size, 0, none⟩) (v := .slice y5 r5.length cy5) hb (by go_simp)
        have hq := thru (al (Below.refl _ V9) (.cells #[.slice y5 r5.length cy5] 24)) hb
        replace n5 := later hq n5
        replace hrs := hrs.later hq
        replace hr5 := hr5.later hq
        replace hBV := thru hBV hq
        clear hb hq z9
        obtain ⟨b21, hb21⟩ : ∃ b, V9.heap.size = b := ⟨_, rfl⟩
        rw [hb21] at m21 ⊢
        clear hb21
        have z10 : b5 < V10.heap.size := World.block_lt_of_cell? _ _ n5
        have z11 : b21 < V10.heap.size := World.block_lt_of_cell? _ _ m21
        go_wp2_with fail
        refine (HSS.out _ y5 r5 cy5 (hr5.later (al (Below.refl _ V10) (.cells #[.slice none 0 0] 24))) (hrs.later (al (Below.refl _ V10) (.cells #[.slice none 0 0] 24))) HM5.out).mono ?_
        rintro e V11 ⟨rfl, hb⟩
        have hBW := thru (al hBV (.cells #[.slice none 0 0] 24)) hb
        go_wp2_with fail
        refine (awake_any _).mono ?_
        rintro e w' ⟨rfl, hb2⟩
        go_wp2_with fail
        go_ret
        exact ⟨rfl, thru hBW hb2⟩
    · refine heavyB_want (by rfl) (fun K' hK' => ?_)
      go_simp
      refine hK' _ _ ((Below.refl _ _).alloc (by omega) _) ?_
      clear hK' K'
      obtain ⟨Y2, hY2⟩ : ∃ Y, Y1.alloc (.cells #[.slice (some ⟨bz, 0, none⟩) 53 53] 25) = Y := ⟨_, rfl⟩
      have hq : Below Y1.heap.size Y1 Y2 := by rw [← hY2]; exact al (Below.refl _ _) _
      replace tV0 : Below V.heap.size V Y2 := by rw [← hY2]; exact tV0.alloc zX _
      have hsz : Y1.heap.size + 1 = Y2.heap.size := by rw [← hY2]; simp
      replace hzz := hzz.later hq
      have ny : Y2.cell? ⟨Y1.heap.size, 0, none⟩ = some (.slice (some ⟨bz, 0, none⟩) 53 53) := by rw [← hY2]; exact cell_new Y1 _ _ _ 0
      rw [hY2]
      clear hY2 hq
      obtain ⟨by_, eby_⟩ : ∃ b, Y1.heap.size = b := ⟨_, rfl⟩
      rw [eby_]
      rw [eby_] at ny
      have dbzby_ : bz < by_ := by omega
      replace lbz : bz < Y2.heap.size := by omega
      have gby_ : V.heap.size ≤ by_ := by omega
      have lby_ : by_ < Y2.heap.size := by omega
      replace zX : V.heap.size ≤ Y2.heap.size := by omega
      clear eby_ hsz
      try simp only [Act.put, List.setIfInBounds_toArray, List.set_cons_zero, List.set_cons_succ]
      rw [wpSchedB]
      simp only [pick, List.map_nil, Array.getD_eq_getD_getElem?, List.getElem?_toArray, List.getElem?_cons_zero, Option.getD_some]
      refine wpQuiet_nil ?_
      refine heavyB_want (by rfl) (fun K' hK' => ?_)
      go_simp
      refine hK' _ _ ((Below.refl _ _).alloc (by omega) _) ?_
      clear hK' K'
      obtain ⟨Y3, hY3⟩ : ∃ Y, Y2.alloc (.cells #[] 25) = Y := ⟨_, rfl⟩
      have hq : Below Y2.heap.size Y2 Y3 := by rw [← hY3]; exact al (Below.refl _ _) _
      replace tV0 : Below V.heap.size V Y3 := by rw [← hY3]; exact tV0.alloc zX _
      have hsz : Y2.heap.size + 1 = Y3.heap.size := by rw [← hY3]; simp
      replace hzz := hzz.later hq
      replace ny := later hq ny
      have hrow : OwnsR V.heap.size Y3 (some ⟨Y2.heap.size, 0, none⟩) 0 [] := by rw [← hY3]; exact OwnsR.whole _ _ _ [] _ rfl (by omega) rfl (by simp)
      rw [hY3]
      clear hY3 hq
      obtain ⟨b0r, eb0r⟩ : ∃ b, Y2.heap.size = b := ⟨_, rfl⟩
      rw [eb0r]
      rw [eb0r] at hrow
      have dbzb0r : bz < b0r := by omega
      have dby_b0r : by_ < b0r := by omega
      replace lbz : bz < Y3.heap.size := by omega
      replace lby_ : by_ < Y3.heap.size := by omega
      have gb0r : V.heap.size ≤ b0r := by omega
      have lb0r : b0r < Y3.heap.size := by omega
      replace zX : V.heap.size ≤ Y3.heap.size := by omega
      clear eb0r hsz
      try simp only [Act.put, List.setIfInBounds_toArray, List.set_cons_zero, List.set_cons_succ]
      rw [wpSchedB]
      simp only [pick, List.map_nil, Array.getD_eq_getD_getElem?, List.getElem?_toArray, List.getElem?_cons_succ, List.getElem?_cons_zero, Option.getD_some]
      refine wpQuiet_nil ?_
      refine heavyB_want (by rfl) (fun K' hK' => ?_)
      refine wp_appRs _ _ rfl (B := V.heap.size) hrow rfl (b := gs) (q := qs) (m := 3) (rs := rs) rfl HRL.out (hrs0.later tV0).1 (by decide) (by omega) (fun xr cr Y4 h1 h2 h3 => hK' _ _ (h2.mono (by omega)) ?_)
      clear hK' K'
      replace hzz := hzz.turn h3 (fun b hb hh => hrow.apart hzz b hh hb)
      replace ny := h3.cell (p := ⟨by_, 0, none⟩) (fun e => by have e2 : b0r = by_ := Option.some.inj e; omega) ny
      replace tV0 := tV0.trans h2
      have hsz := h2.size
      replace zX : V.heap.size ≤ Y4.heap.size := by omega
      replace lbz : bz < Y4.heap.size := by omega
      replace lby_ : by_ < Y4.heap.size := by omega
      replace lb0r : b0r < Y4.heap.size := by omega
      clear hrow
      have hrow := h1
      clear h1 h2 h3 hsz
      try simp only [Act.put, List.setIfInBounds_toArray, List.set_cons_zero, List.set_cons_succ]
      rw [wpSchedB]
      simp only [pick, List.map_nil, Array.getD_eq_getD_getElem?, List.getElem?_toArray, List.getElem?_cons_succ, List.getElem?_cons_zero, Option.getD_some]
      refine wpQuiet_nil ?_
      refine heavyB_want (by rfl) (fun K' hK' => ?_)
      refine wp_appR _ _ rfl (B := V.heap.size) (rs := rs) (u := ⟨some ⟨bz, 0, none⟩, 53, List.replicate 53 0⟩) hrow (by rw [HRL.out]; rfl) (ad := ⟨by_, 0, none⟩) rfl ny (by have := HRL.out; omega) (by omega) (fun xr2 cr2 Y5 h1 h2 h3 => hK' _ _ (h2.mono (by omega)) ?_)
      clear hK' K'
      rw [HL4.out]
      have hz6 := hzz.bts.turn h3 (fun a e => by cases e; exact fun hh => hrow.apart hzz bz hh rfl)
      replace tV0 := tV0.trans h2
      have hsz := h2.size
      replace zX : V.heap.size ≤ Y5.heap.size := by omega
      clear hrow
      have hrow := h1
      clear h1 h2 h3 hsz hzz ny
      try simp only [Act.put, List.setIfInBounds_toArray, List.set_cons_zero, List.set_cons_succ]
      rw [wpSchedB]
      simp only [pick, List.map_cons, List.map_nil, Array.getD_eq_getD_getElem?, List.getElem?_toArray, List.getElem?_cons_succ, List.getElem?_cons_zero, Option.getD_some]
      repeat (first | go_big_quiet_step (fail) | quiet_step (fail))
      refine wpQuiet_nil ?_
      have n7x := later tV0 n7
      have f7x := (Below.frozen tV0 (p := ⟨b7, 0, none⟩) (by simp; omega)).trans f7
      refine heavyB_want (by rfl) (fun K' hK' => ?_)
      go_simp
      refine hK' _ _ ((Below.refl _ _).setCell (p := ⟨b7, 0, none⟩) (Nat.le_refl _) _) ?_
      clear hK' K' f7x
      obtain ⟨Z, hZ⟩ : ∃ Y, Y5.setCell ⟨b7, 0, none⟩ (.slice xr2 4 cr2) = Y := ⟨_, rfl⟩
      have ts : Turns (fun b => b = b7) Y5 Z := by rw [← hZ]; exact (Turns.refl (fun b => b = b7) Y5).setCell (p := ⟨b7, 0, none⟩) (fun _ => rfl) _
      have n7z : Z.cell? ⟨b7, 0, none⟩ = some (.slice xr2 4 cr2) := by rw [← hZ]; exact World.cell?_setCell_same' _ _ _ (by rw [n7x]; rfl)
      rw [hZ]
      clear hZ n7x
      try simp only [Act.put, List.setIfInBounds_toArray, List.set_cons_zero, List.set_cons_succ]
      rw [wpSchedB]
      simp only [List.map_nil]
      refine wpQuiet_nil ?_
      have tVZ : Turns (fun b => b = b7) V Z := (Turns.of_below (T := fun b => b = b7) tV0 (Nat.le_refl _)).trans ts
      have hwZ : Below w1.heap.size w1 Z := hw1V.trans (tVZ.below hw1V.size (fun i hi e => by omega))
      have hBZ := thru hB1 hwZ
      have n5z := tVZ.cell (p := ⟨b5, 0, none⟩) (by simp; omega) n5
      have n80z := tVZ.cell (p := ⟨b8, 0, none⟩) (by simp; omega) n80
      have n81z := tVZ.cell (p := ⟨b8, 1, none⟩) (by simp; omega) n81
      have n82z := tVZ.cell (p := ⟨b8, 2, none⟩) (by simp; omega) n82
      have hokz : OpOk Z ⟨1, false, some ⟨bD, 0, none⟩, 1, [5]⟩ := ⟨hok.1.turn tVZ (fun a e => by cases e; simp; omega), hok.2⟩
      have hrsz := hrs1.later hwZ
      have hz7 := hz6.turn ts (fun a e => by cases e; simp; omega)
      have hrtz : Rws Z xr2 (rs ++ [⟨some ⟨bz, 0, none⟩, 53, List.replicate 53 0⟩]) := by
        refine ⟨(hrow.turn ts (fun b hb e => by have := (hrow.low b hb).1; omega)).cellsR, fun r hr => ?_⟩
        rcases List.mem_append.1 hr with hr | hr
        · exact hrsz.2 r hr
        · obtain rfl : r = ⟨some ⟨bz, 0, none⟩, 53, List.replicate 53 0⟩ := by simpa using hr
          exact ⟨hz7, (fun h => by cases h), by simp, by simp⟩
      have hmt : (rs ++ [(⟨some ⟨bz, 0, none⟩, 53, List.replicate 53 0⟩ : Rw)]).map (·.l) = [erasedL, erasedL, erasedL, List.replicate 53 0] := by rw [List.map_append, HLS.out]; rfl
      have hl4 := HL4.out bz
      obtain ⟨rt, hrt_⟩ : ∃ rt : List Rw, rs ++ [⟨some ⟨bz, 0, none⟩, 53, List.replicate 53 0⟩] = rt := ⟨_, rfl⟩
      rw [hrt_] at hrtz hmt hl4
      clear hrt_ hrow hz6 hz7 ts tV0 tVZ n5 n7 n80 n81 n82 f7 hok hw1V hrs0 hBV zX lbz lby_ lb0r
      obtain ⟨n5, n7, n80, n81, n82, hBV, hok, hrs, hrt⟩ := (⟨n5z, n7z, n80z, n81z, n82z, hBZ, hokz, hrsz, hrtz⟩ : _ ∧ _ ∧ _ ∧ _ ∧ _ ∧ _ ∧ _ ∧ _ ∧ _)
      clear n5z n7z n80z n81z n82z hBZ hokz hrsz hrtz hwZ hrs1 hB1
      have hbad : vldO (rt.map (·.l)) [⟨1, false, some ⟨bD, 0, none⟩, 1, [5]⟩] = false := by
        rw [Bool.eq_false_iff]
        intro h
        have h1 := ((vldS_iff _).1 ((vldO_iff _ _).1 h).1).2
        rw [hmt] at h1
        have := h1 (List.replicate 53 0) (by simp)
        simp at this
      have hl5 : ∀ l, l ∈ rt.map (·.l) → l.length ≤ 100000 := fun l hl => by
        rw [hmt] at hl
        simp only [List.mem_cons, List.not_mem_nil, or_false] at hl
        rcases hl with rfl | rfl | rfl | rfl
        · rw [erasedL_len]; decide
        · rw [erasedL_len]; decide
        · rw [erasedL_len]; decide
        · simp
      have HRB := Lib.hid (run_bad xr2 rt cr2 4 ⟨1, false, some ⟨bD, 0, none⟩, 1, [5]⟩ hl4 (by decide) hl5 hbad)
      have HCB := Lib.hid (cut_bad xr2 rt cr2 4 ⟨1, false, some ⟨bD, 0, none⟩, 1, [5]⟩ 0 0 hl4 (by decide) hl5 (by unfold cutOk; rw [hbad]; rfl))
      have HST := Lib.hid (same_yes xr2 rt cr2 4 hl4 (by decide))
      clear hbad hl5 hmt hl4
      obtain ⟨V9, hV⟩ : ∃ V9, Z = V9 := ⟨_, rfl⟩
      rw [hV] at n5 n7 n80 n81 n82 hBV hok hrs hrt ⊢
      clear hV
      go_wp2_with fail
      refine (HRB.out _ V9.heap.size (hrt.later (al (Below.refl _ V9) (.cells #[.int .i64 1, .bool false, .slice (some ⟨bD, 0, none⟩) 1 1] 31))) (ops_at (o := ⟨1, false, some ⟨bD, 0, none⟩, 1, [5]⟩) (cell_new V9 _ _ _ 0) (cell_new V9 _ _ _ 1) (cell_new V9 _ _ _ 2) (hok.later (al (Below.refl _ V9) (.cells #[.int .i64 1, .bool false, .slice (some ⟨bD, 0, none⟩) 1 1] 31))))).mono ?_
      rintro e V1 ⟨xa, ca, ra, rfl, hra, hma, hb⟩
      have hq := thru (al (Below.refl _ V9) (.cells #[.int .i64 1, .bool false, .slice (some ⟨bD, 0, none⟩) 1 1] 31)) hb
      replace n5 := later hq n5
      replace n7 := later hq n7
      replace n80 := later hq n80
      replace n81 := later hq n81
      replace n82 := later hq n82
      replace hrs := hrs.later hq
      replace hrt := hrt.later hq
      replace hok := hok.later hq
      replace hBV := thru hBV hq
      clear hb hq
      have HMA := Lib.hid hma
      clear hma
      have zb5 : b5 < V1.heap.size := World.block_lt_of_cell? _ _ n5
      have zb7 : b7 < V1.heap.size := World.block_lt_of_cell? _ _ n7
      have zb8 : b8 < V1.heap.size := World.block_lt_of_cell? _ _ n80
      go_wp2_with fail
      have e0 : ((V1.alloc (.cells #[.slice xa ra.length ca] 24)).alloc (.cells #[.int .i64 1, .bool false, .slice (some ⟨bD, 0, none⟩) 1 1] 31)).heap.size = V1.heap.size + 2 := by simp
      refine (HCB.out _ (V1.heap.size + 1) (hrt.later (al (al (Below.refl _ V1) (.cells #[.slice xa ra.length ca] 24)) (.cells #[.int .i64 1, .bool false, .slice (some ⟨bD, 0, none⟩) 1 1] 31))) (ops_at (o := ⟨1, false, some ⟨bD, 0, none⟩, 1, [5]⟩) (by go_simp) (by go_simp) (by go_simp) (hok.later (al (al (Below.refl _ V1) (.cells #[.slice xa ra.length ca] 24)) (.cells #[.int .i64 1, .bool false, .slice (some ⟨bD, 0, none⟩) 1 1] 31))))).mono ?_
      clear e0
      rintro e V2 ⟨xb, cb, rb, rfl, hrb, hmb, hb⟩
      have m9 := later (a := ⟨V1.heap.size, 0, none⟩) (v := .slice xa ra.length ca) hb (later (al (Below.refl _ _) _) (by go_simp))
      have hq := thru (al (al (Below.refl _ V1) (.cells #[.slice xa ra.length ca] 24)) (.cells #[.int .i64 1, .bool false, .slice (some ⟨bD, 0, none⟩) 1 1] 31)) hb
      replace n5 := later hq n5
      replace n7 := later hq n7
      replace n80 := later hq n80
      replace n81 := later hq n81
      replace n82 := later hq n82
      replace hrs := hrs.later hq
      replace hrt := hrt.later hq
      replace hra := hra.later hq
      replace hok := hok.later hq
      replace hBV := thru hBV hq
      clear hb hq zb5 zb7 zb8
      have HMB := Lib.hid hmb
      clear hmb
      obtain ⟨b9, hb9⟩ : ∃ b, V1.heap.size = b := ⟨_, rfl⟩
      rw [hb9] at m9 ⊢
      clear hb9
      have zb5 : b5 < V2.heap.size := World.block_lt_of_cell? _ _ n5
      have zb7 : b7 < V2.heap.size := World.block_lt_of_cell? _ _ n7
      have zb8 : b8 < V2.heap.size := World.block_lt_of_cell? _ _ n80
      have zb9 : b9 < V2.heap.size := World.block_lt_of_cell? _ _ m9
      go_wp2_with fail
      refine (HST.out _ xa ra ca (hra.later (al (Below.refl _ V2) (.cells #[.slice xb rb.length cb] 24))) (hrt.later (al (Below.refl _ V2) (.cells #[.slice xb rb.length cb] 24))) HMA.out).mono ?_
      rintro e V3 ⟨rfl, hb⟩
      have m11 := later (a := ⟨V2.heap.size, 0, none⟩) (v := .slice xb rb.length cb) hb (by go_simp)
      clear zb5 zb7 zb8 zb9
      have hq := thru (al (Below.refl _ V2) (.cells #[.slice xb rb.length cb] 24)) hb
      replace n5 := later hq n5
      replace n7 := later hq n7
      replace n80 := later hq n80
      replace n81 := later hq n81
      replace n82 := later hq n82
      replace m9 := later hq m9
      replace hrs := hrs.later hq
      replace hrt := hrt.later hq
      replace hra := hra.later hq
      replace hrb := hrb.later hq
      replace hok := hok.later hq
      replace hBV := thru hBV hq
      clear hb hq
      obtain ⟨b11, hb11⟩ : ∃ b, V2.heap.size = b := ⟨_, rfl⟩
      rw [hb11] at m11 ⊢
      clear hb11
      go_wp2_with fail
      refine (HST.out _ xb rb cb hrb hrt HMB.out).mono ?_
      rintro e V4 ⟨rfl, hb⟩
      have hq := thru (Below.refl _ V3) hb
      replace n5 := later hq n5
      replace n7 := later hq n7
      replace n80 := later hq n80
      replace n81 := later hq n81
      replace n82 := later hq n82
      replace m9 := later hq m9
      replace m11 := later hq m11
      replace hrs := hrs.later hq
      replace hrt := hrt.later hq
      replace hra := hra.later hq
      replace hrb := hrb.later hq
      replace hok := hok.later hq
      replace hBV := thru hBV hq
      clear hb hq
      go_wp2_with fail
      refine (HR1.out _ hrs).mono ?_
      rintro e V5 ⟨y1, cy1, rfl, hb⟩
      have hq := thru (Below.refl _ V4) hb
      replace n5 := later hq n5
      replace n7 := later hq n7
      replace n80 := later hq n80
      replace n81 := later hq n81
      replace n82 := later hq n82
      replace m9 := later hq m9
      replace m11 := later hq m11
      replace hrs := hrs.later hq
      replace hrt := hrt.later hq
      replace hra := hra.later hq
      replace hrb := hrb.later hq
      replace hok := hok.later hq
      replace hBV := thru hBV hq
      clear hb hq
      go_wp2_with fail
      refine (HR2.out _ hrs).mono ?_
      rintro e V6 ⟨y2, cy2, rfl, hb⟩
      have hq := thru (Below.refl _ V5) hb
      replace n5 := later hq n5
      replace n7 := later hq n7
      replace n80 := later hq n80
      replace n81 := later hq n81
      replace n82 := later hq n82
      replace m9 := later hq m9
      replace m11 := later hq m11
      replace hrs := hrs.later hq
      replace hrt := hrt.later hq
      replace hra := hra.later hq
      replace hrb := hrb.later hq
      replace hok := hok.later hq
      replace hBV := thru hBV hq
      clear hb hq
      clear n7 n80 n81 n82 m9 m11 hrt hra hrb hok HRB HCB HST HMA HMB
      go_wp2_with fail
      refine (HCN.out _ hrs).mono ?_
      rintro e V7 ⟨y3, cy3, r3, rfl, hr3, hm3, hb⟩
      have hq := thru (Below.refl _ V6) hb
      replace n5 := later hq n5
      replace hrs := hrs.later hq
      replace hBV := thru hBV hq
      clear hb hq hr3 hm3
      have z7 : b5 < V7.heap.size := World.block_lt_of_cell? _ _ n5
      go_wp2_with fail
      refine (HC0.out _ (V7.heap.size + 1) (hrs.later (al (al (Below.refl _ V7) (.cells #[.slice y3 r3.length cy3] 24)) (.cells #[.int .i64 0, .bool false, .slice none 0 0] 31))) (ops_at (o := ⟨0, false, none, 0, []⟩) (by go_simp) (by go_simp) (by go_simp) ⟨.inl rfl, fun _ => rfl, by decide, by decide, by decide, by decide⟩)).mono ?_
      rintro e V8 ⟨y4, cy4, r4, rfl, hr4, hm4, hb⟩
      have hq := thru (al (al (Below.refl _ V7) (.cells #[.slice y3 r3.length cy3] 24)) (.cells #[.int .i64 0, .bool false, .slice none 0 0] 31)) hb
      replace n5 := later hq n5
      replace hrs := hrs.later hq
      replace hBV := thru hBV hq
      clear hb hq hr4 hm4 z7
      have z8 : b5 < V8.heap.size := World.block_lt_of_cell? _ _ n5
      go_wp2_with fail
      refine (HRN.out _ (hrs.later (al (Below.refl _ V8) (.cells #[.slice y4 r4.length cy4] 24)))).mono ?_
      rintro e V9 ⟨y5, cy5, r5, rfl, hr5, hm5, hb⟩
      have hq := thru (al (Below.refl _ V8) (.cells #[.slice y4 r4.length cy4] 24)) hb
      replace n5 := later hq n5
      replace hrs := hrs.later hq
      replace hBV := thru hBV hq
      clear hb hq z8
      have HM5 := Lib.hid hm5
      clear hm5
      have z9 : b5 < V9.heap.size := World.block_lt_of_cell? _ _ n5
      go_wp2_with fail
      refine (HNW.out _).mono ?_
      rintro e V10 ⟨rfl, hb⟩
      have m21 := later (a := ⟨V9.heap.size, 0, none⟩) (v := .slice y5 r5.length cy5) hb (by go_simp)
      have hq := thru (al (Below.refl _ V9) (.cells #[.slice y5 r5.length cy5] 24)) hb
      replace n5 := later hq n5
      replace hrs := hrs.later hq
      replace hr5 := hr5.later hq
      replace hBV := thru hBV hq
      clear hb hq z9
      obtain ⟨b21, hb21⟩ : ∃ b, V9.heap.size = b := ⟨_, rfl⟩
      rw [hb21] at m21 ⊢
      clear hb21
      have z10 : b5 < V10.heap.size := World.block_lt_of_cell? _ _ n5
      have z11 : b21 < V10.heap.size := World.block_lt_of_cell? _ _ m21
      go_wp2_with fail
      refine (HSS.out _ y5 r5 cy5 (hr5.later (al (Below.refl _ V10) (.cells #[.slice none 0 0] 24))) (hrs.later (al (Below.refl _ V10) (.cells #[.slice none 0 0] 24))) HM5.out).mono ?_
      rintro e V11 ⟨rfl, hb⟩
      have hBW := thru (al hBV (.cells #[.slice none 0 0] 24)) hb
      go_wp2_with fail
      refine (awake_any _).mono ?_
      rintro e w' ⟨rfl, hb2⟩
      go_wp2_with fail
      go_ret
      exact ⟨rfl, thru hBW hb2⟩

end Go.Proofs.Ytgibfagnfhgelaa
