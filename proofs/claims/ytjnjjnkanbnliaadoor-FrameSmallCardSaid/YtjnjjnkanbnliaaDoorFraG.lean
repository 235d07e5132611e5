/- WALKS of the frame layer: the reference of Check and of Read. -/
import Derived.Test.YtjnjjnkanbnliaaDoorFraF
namespace Go.Proofs.YtjnjjnkanbnliaaDoor
open Go.RowKit

def RcRel (n : Nat) (tl tr : List UInt8) (w : World) (u6 : Value) (wr : World) : Prop := ∃ j : Nat, j ≤ 4 ∧ u6 = .int .i64 ((n + j : Nat) : Int) ∧ tl.take j = tr.take j ∧ Below w.heap.size w wr
set_option maxHeartbeats 1000000 in
theorem refcheck_all (x : Option Addr) (l : List UInt8) (c : Nat) (w : World) (yd : Bts w x l) (hm : l.length ≤ 100000) (hc : l.length ≤ c ∧ c ≤ 9223372036854775807) :
    Calls Tryd.prog 45 #[.slice x l.length c] w (CheckOf l w) := by
  by_cases h4 : l.length < 4
  · have hd : decide ((l.length : Int) - 4 < 0) = true := by simp; omega
    have HN : Hid (splitC l = none) := by show _ = _; unfold splitC; rw [if_neg (by omega)]
    go_enter Tryd.func45, Tryd.ntmps45
    go_wp2_with fail
    go_ret2
    exact .inr ⟨HN.out, rfl, Below.refl _ _⟩
  · obtain ⟨m, p, q, r, s, hl, hml⟩ := Crc.split4 l (l.length - 4) (by omega)
    obtain ⟨tl, htl⟩ : ∃ t, [p, q, r, s] = t := ⟨_, rfl⟩
    have ntl : tl.length = 4 := by rw [← htl]; rfl
    rw [htl] at hl
    obtain ⟨tr, htr⟩ : ∃ t, Crc.trailer (Crc.sum m) = t := ⟨_, rfl⟩
    have ntr : tr.length = 4 := by rw [← htr]; rfl
    obtain ⟨wl, hwl⟩ : ∃ t, m ++ tr = t := ⟨_, rfl⟩
    obtain ⟨g, o, rfl, -⟩ := yd.resolve_left (by intro e; subst e; simp at h4)
    have ht : l.take (l.length - 4) = m := by rw [← hml]; conv => lhs; rw [hl]
                                              exact List.take_left ..
    have hdr : l.drop (l.length - 4) = tl := by rw [← hml]; conv => lhs; rw [hl]
                                                exact List.drop_left ..
    have HSP : Hid (splitC l = if tr = tl then some m else none) := by
      show _ = _
      unfold splitC
      rw [ht, hdr, htr]
      by_cases he : tr = tl
      · rw [if_pos he, if_pos ⟨by omega, he⟩]
      · rw [if_neg he, if_neg (fun h => he h.2)]
    have hln : l.length = m.length + 4 := by omega
    have hn4 : ((m.length + 4 : Nat) : Int) - 4 = (m.length : Int) := by omega
    have hd : decide ((m.length : Int) < 0) = false := decide_eq_false (by omega)
    have yd2 := yd
    rw [hl] at yd2
    have ym : Bts w (some ⟨g, o, none⟩) m := yd2.left
    have yt : Bts w (some ⟨g, o + m.length, none⟩) tl := yd2.right
    rw [hln] at hc ⊢
    have HWL : Hid (m ++ Crc.trailer (Crc.sum m) = wl) := by show _ = _; rw [htr, hwl]
    have HW2 := Lib.hid hwl
    have L0 := Lib.hid (show [] ++ m = m from rfl)
    have HTL := Lib.hid ntl
    have HTR := Lib.hid ntr
    have hm5 : m.length + 4 ≤ 100000 := by omega
    have hB := Below.refl w.heap.size w
    clear hl hml htl htr hwl ht hdr yd yd2 ntl ntr hln h4
    go_enter Tryd.func45, Tryd.ntmps45
    go_wp2_with fail
    refine (refapp_any (some ⟨g, o, none⟩) m c _ ym (fun h => by cases h) (by omega)).mono ?_
    rintro e w1 ⟨x1, c1, rfl, ho, hb⟩
    rw [HWL.out] at ho ⊢
    have hwn : wl.length = m.length + 4 := by rw [← HW2.out, List.length_append, HTR.out]
    obtain ⟨g1, rfl⟩ := ho.some_of (by omega)
    have yw := ho.bts
    have ywr := yw
    rw [← HW2.out] at ywr
    replace ywr := ywr.right
    rw [Nat.zero_add] at ywr
    have HWN := Lib.hid hwn
    rw [hwn]
    replace hB := thru hB hb
    replace ym := ym.later hb
    replace yt := yt.later hb
    clear ho hb yw hwn
    go_wp2_with fail
    go_loopw [6] (fun u6 wr => RcRel m.length tl tr w1 u6 wr) (fun u6 _ => m.length + 4 - (intOf u6).toNat)
    case atStart => exact ⟨0, by omega, by simp, rfl, Below.refl _ _⟩
    case round =>
      obtain ⟨j, hj, rfl, hjt, hB2⟩ := hrel
      have HJ := Lib.hid hjt
      clear hjt
      by_cases hlt : j < 4
      · have hkb : decide (((m.length + j : Nat) : Int) < (m.length : Int) + 4) = true := by simp; omega
        obtain ⟨_, _, he, hct⟩ := (yt.later hB2).resolve_left (fun e => by have h := HTL.out; rw [e] at h; simp at h)
        cases he
        obtain ⟨_, _, he, hcr⟩ := (ywr.later hB2).resolve_left (fun e => by have h := HTR.out; rw [e] at h; simp at h)
        cases he
        have ct := hct j (by have := HTL.out; omega)
        have cr := hcr j (by have := HTR.out; omega)
        have hjl : j < tl.length := by have := HTL.out; omega
        have hjr : j < tr.length := by have := HTR.out; omega
        obtain ⟨u, hu⟩ : ∃ u, tl.getD j 0 = u := ⟨_, rfl⟩
        obtain ⟨v, hv⟩ : ∃ u, tr.getD j 0 = u := ⟨_, rfl⟩
        rw [hu] at ct
        rw [hv] at cr
        unfold encB at ct cr
        have hi : m.length + j < m.length + 4 := by omega
        obtain ⟨i, hij⟩ : ∃ i, m.length + j = i := ⟨_, rfl⟩
        rw [Nat.add_assoc, hij] at ct
        rw [hij] at cr hi hkb ⊢
        have hki : (i : Int) < (m.length : Int) + 4 := by omega
        have hsucc : i + 1 = m.length + (j + 1) := by omega
        have HSU := Lib.hid hsucc
        by_cases he : u = v
        · have hq : ((u.toNat : Int) != (v.toNat : Int)) = false := by simp [he]
          have HK : Hid (tl.take (j + 1) = tr.take (j + 1)) := take_eq_succ tl tr j hjl hjr HJ.out (by rw [hu, hv, he])
          clear he hu hv hcr hct hij hsucc
          go_wp2_with fail
          go_quiet (fail)
          go_wp2_with fail
          exact ⟨⟨j + 1, by omega, by rw [← HSU.out]; go_num, HK.out, belN hB2 _⟩, by simp [intOf]; have := HSU.out; omega⟩
        · have hq : ((u.toNat : Int) != (v.toNat : Int)) = true := by simp; intro h; exact he (UInt8.toNat_inj.1 (by omega))
          have HF : Hid (splitC l = none) := by
            show _ = _
            rw [HSP.out, if_neg]
            rintro rfl
            exact he (hu.symm.trans hv)
          clear he hu hv hcr hct hij hsucc
          go_wp2_with fail
          go_quiet (fail)
          go_wp2_with fail
          go_ret2
          exact .inr ⟨HF.out, rfl, belN (thru hB hB2) _⟩
      · obtain rfl : j = 4 := by omega
        have hkb : decide (((m.length + 4 : Nat) : Int) < (m.length : Int) + 4) = false := by simp
        have HF : Hid (splitC l = some m) := by
          show _ = _
          have h := HJ.out
          rw [List.take_of_length_le (by rw [HTL.out]; omega), List.take_of_length_le (by rw [HTR.out]; omega)] at h
          rw [HSP.out, if_pos h.symm]
        replace ym := ym.later hB2
        replace hB := thru hB hB2
        clear hB2 HJ
        have hC := Below.refl wr.heap.size wr
        have hS := hB.size
        go_wp2_with (at_builtin; (refine wpList_app rfl _ _ rfl (l := []) (B := wr.heap.size) (OwnsB.made' _ (wr.heap.size) _ (Nat.le_refl _) rfl) rfl (m := m) rfl (ym.later (al hC _)) (fun h => by cases h) (by simp; omega) L0.out (by simp) ?_); intro x3 c3 w3 ho hb _; refine Hid.out ?_)
        unfold Hid
        replace hB := (al hB _).trans (hb.mono (by have := hB.size; first | omega | (simp <;> omega)))
        have HO := Lib.hid (ho.weaken hS)
        clear ho hb
        go_wp2_with fail
        go_ret2
        exact .inl ⟨m, HF.out, x3, c3, rfl, HO.out, hB⟩

theorem parse_short5 (l : List UInt8) (h : l.length < 5) : parseM l = none := by
  match l, h with
  | [], _ => rfl
  | [_], _ => rfl
  | [_, _], _ => rfl
  | [_, _, _], _ => rfl
  | [a, b, d, e0], _ =>
    show (if (((e0.toNat : Int) == ((0 : Nat) : Int)) && vldF (a.toNat : Int) (b.toNat : Int) (d.toNat : Int) 0) = true then some (a, b, d, []) else none) = none
    have : vldF (a.toNat : Int) (b.toNat : Int) (d.toNat : Int) 0 = false := by unfold vldF; simp
    rw [this, Bool.and_false, if_neg (by decide)]
  | _ :: _ :: _ :: _ :: _ :: _, h => simp at h; omega
set_option maxHeartbeats 4000000 in
theorem refread_any (x : Option Addr) (l : List UInt8) (c : Nat) (w : World) (hx : Bts w x l) (hl : l.length ≤ 100000) (hc : l.length ≤ c ∧ c ≤ 9223372036854775807) : Calls Tryd.prog 33 #[.slice x l.length c] w (ReadOf l w) := by
  have hB := Below.refl w.heap.size w
  go_enter Tryd.func33, Tryd.ntmps33
  go_wp2_with fail
  refine (refcheck_all x l c _ (hx.later (al hB _)) hl hc).mono ?_
  rintro e w1 (⟨m, hs, x1, c1, rfl, ho, hb⟩ | ⟨hs, rfl, hb⟩)
  · have hml := split_len hs
    have r0 := later (a := ⟨w.heap.size, 0, none⟩) (v := .int .i64 0) hb (by go_simp)
    have z0 := (Below.frozen hb (p := ⟨w.heap.size, 0, none⟩) (by simp)).trans (show _ = false by go_simp)
    have r1 := later (a := ⟨w.heap.size, 1, none⟩) (v := .int .i64 0) hb (by go_simp)
    have z1 := (Below.frozen hb (p := ⟨w.heap.size, 1, none⟩) (by simp)).trans (show _ = false by go_simp)
    have r2 := later (a := ⟨w.heap.size, 2, none⟩) (v := .int .i64 0) hb (by go_simp)
    have z2 := (Below.frozen hb (p := ⟨w.heap.size, 2, none⟩) (by simp)).trans (show _ = false by go_simp)
    have r3 := later (a := ⟨w.heap.size, 3, none⟩) (v := .slice none 0 0) hb (by go_simp)
    have z3 := (Below.frozen hb (p := ⟨w.heap.size, 3, none⟩) (by simp)).trans (show _ = false by go_simp)
    have hcap := ho.le_cap
    have hB1 := thru (al hB _) hb
    have hz1 : w.heap.size < w1.heap.size := World.block_lt_of_cell? _ _ r0
    have yd := ho.bts
    by_cases h5 : m.length < 5
    · have HP : Hid ((splitC l).bind parseM = none) := by
        show _ = _
        rw [hs]
        exact parse_short5 m h5
      have HC : Hid ((if splitC l = none then (40 : Int) else 170) = 170) := by show _ = _; rw [hs]; rfl
      have hd5 : decide ((m.length : Int) < 5) = true := by simp; omega
      clear hs ho hb
      go_wp2_with fail
      exact bodyPost_ret (v := .tuple #[frV 0 0 0 none 0 0, .int .i64 170]) (by obtain ⟨e0, e1, e2, e3⟩ := four_cells r0 r1 r2 r3 (.int .i64 0) (.int .i64 0) (.int .i64 0) (.slice none 0 0); simp [results, Tryd.results33, go_sem, frV, e0, e1, e2, e3]) rfl ⟨four_set hB1 (Nat.le_refl _) _ _ _ _, .inr ⟨HP.out, by rw [HC.out]⟩⟩
    · match m, h5 with
      | [], h5 => exact absurd (by simp) h5
      | [_], h5 => exact absurd (by simp) h5
      | [_, _], h5 => exact absurd (by simp) h5
      | [_, _, _], h5 => exact absurd (by simp) h5
      | a :: b :: d :: e0 :: r, h5 =>
        obtain ⟨gd, rfl⟩ := ho.some_of (by simp)
        have hr0 : 1 ≤ r.length := by simp at h5; omega
        have hlen : (a :: b :: d :: e0 :: r).length = r.length + 4 := rfl
        rw [hlen] at hcap hml ⊢
        obtain ⟨_, _, he, hcl⟩ := yd.resolve_left (by simp)
        cases he
        have d0 : w1.cell? ⟨gd, 0, none⟩ = some (.int .u8 (a.toNat : Int)) := hcl 0 (by simp)
        have d1 : w1.cell? ⟨gd, 1, none⟩ = some (.int .u8 (b.toNat : Int)) := hcl 1 (by simp)
        have d2 : w1.cell? ⟨gd, 2, none⟩ = some (.int .u8 (d.toNat : Int)) := hcl 2 (by simp)
        have d3 : w1.cell? ⟨gd, 3, none⟩ = some (.int .u8 (e0.toNat : Int)) := hcl 3 (by simp)
        have yr : Bts w1 (some ⟨gd, 0 + 4, none⟩) r := Bts.right (l := [a, b, d, e0]) yd
        rw [Nat.zero_add] at yr
        have hgd : gd < w1.heap.size := (ho.low gd rfl).2
        have ha8 := a.toNat_lt
        have hb8 := b.toNat_lt
        have hd8 := d.toNat_lt
        have he8 := e0.toNat_lt
        have hs4 : (r.length : Int) + 4 - 4 = (r.length : Int) := by omega
        have hd5 : decide ((r.length : Int) + 4 < 5) = false := by simp; omega
        have hc4 : ¬ c1 - 4 = 0 := by omega
        have hc5 : (c1 - 4 == 0) = false := by simp; omega
        have h4l : 4 ≤ r.length + 4 := by omega
        have Hs := Lib.hid hs
        clear hs ho hb hcl yd hlen hB hx
        by_cases heq : (e0.toNat : Int) = (r.length : Int)
        · have hq : ((e0.toNat : Int) != (r.length : Int)) = false := by simp [heq]
          have hq1 : ((e0.toNat : Int) == (r.length : Int)) = true := by simp [heq]
          obtain ⟨q, hvq⟩ : ∃ q, vldF (a.toNat : Int) (b.toNat : Int) (d.toNat : Int) r.length = q := ⟨_, rfl⟩
          have HPM : Hid (parseM (a :: b :: d :: e0 :: r) = if q = true then some (a, b, d, r) else none) := by
            show (if (((e0.toNat : Int) == (r.length : Int)) && vldF (a.toNat : Int) (b.toNat : Int) (d.toNat : Int) r.length) = true then some (a, b, d, r) else none) = _
            rw [hq1, hvq, Bool.true_and]
          have HVQ := Lib.hid hvq
          clear hvq hq1 heq
          go_wp2_with fail
          refine wp_region_schedB (B := w1.heap.size) (fun W => W.cell? ⟨gd, 0, none⟩ = some (.int .u8 (a.toNat : Int)) ∧ W.cell? ⟨gd, 1, none⟩ = some (.int .u8 (b.toNat : Int)) ∧ W.cell? ⟨gd, 2, none⟩ = some (.int .u8 (d.toNat : Int)) ∧ Bts W (some ⟨gd, 4, none⟩) r ∧ W.cell? ⟨w.heap.size, 0, none⟩ = some (.int .i64 0) ∧ W.frozen? ⟨w.heap.size, 0, none⟩ = false ∧ W.cell? ⟨w.heap.size, 1, none⟩ = some (.int .i64 0) ∧ W.frozen? ⟨w.heap.size, 1, none⟩ = false ∧ W.cell? ⟨w.heap.size, 2, none⟩ = some (.int .i64 0) ∧ W.frozen? ⟨w.heap.size, 2, none⟩ = false ∧ W.cell? ⟨w.heap.size, 3, none⟩ = some (.slice none 0 0) ∧ W.frozen? ⟨w.heap.size, 3, none⟩ = false ∧ w1.heap.size ≤ W.heap.size ∧ Below w.heap.size w W) (.two [0, 1, 2, 3, 4, 5, 6, 7, 8, 9, 10, 11, 13, 14] 12 (.two [] 15 (.one [16] 17 (.one [] 18 (.done []))) 17 (.one [] 15 (.one [16] 18 (.done [])))) 17 (.one [] 12 (.one [] 15 (.one [16] 18 (.done []))))) (by kernel_rfl) (by kernel_rfl) (fun _ _ _ _ _ h => h) ⟨d0, d1, d2, yr, r0, z0, r1, z1, r2, z2, r3, z3, Nat.le_refl _, hB1.drew⟩ ?_
          clear d0 d1 d2 d3 yr hB1 r0 z0 r1 z1 r2 z2 r3 z3
          rintro W ⟨d0, d1, d2, yr, r0, z0, r1, z1, r2, z2, r3, z3, hzW, hB⟩
          have wrap_a : IntKind.i64.wrap (a.toNat : Int) = (a.toNat : Int) := wrap64_of _ (by omega)
          have wrap_b : IntKind.i64.wrap (b.toNat : Int) = (b.toNat : Int) := wrap64_of _ (by omega)
          have wrap_d : IntKind.i64.wrap (d.toNat : Int) = (d.toNat : Int) := wrap64_of _ (by omega)
          rw [wpSchedB]
          simp only [pick, List.map_cons, List.map_nil, Array.getD_eq_getD_getElem?, List.getElem?_toArray, List.getElem?_cons_succ, List.getElem?_cons_zero, Option.getD_some]
          have k0 := plusB_cell d0 hgd
          have k1 := plusB_cell d1 hgd
          have k2 := plusB_cell d2 hgd
          repeat (first | go_big_quiet_step (fail) | quiet_step (fail))
          refine wpQuiet_nil ?_
          clear k0 k1 k2 d0 d1 d2 wrap_a wrap_b wrap_d
          refine ⟨?_, ?_⟩
          · have hzW0 := hzW
            refine heavyB_want (by rfl) (fun K' hK' => ?_)
            go_simp
            refine hK' _ _ ((Below.refl _ _).alloc (hzW) _) ?_
            clear hK' K'
            obtain ⟨Y1, hwY1⟩ : ∃ X, W.alloc (.cells #[] 5) = X := ⟨_, rfl⟩
            rw [hwY1]
            have hq : Below W.heap.size W Y1 := by rw [← hwY1]; exact al (Below.refl _ W) _
            have ho : OwnsB W.heap.size Y1 (some ⟨W.heap.size, 0, none⟩) 0 [] := by rw [← hwY1]; exact OwnsB.made' _ _ _ (Nat.le_refl _) rfl
            replace z0 := (Below.frozen hq (p := ⟨w.heap.size, 0, none⟩) (World.block_lt_of_cell? _ _ r0)).trans z0
            replace r0 := later hq r0
            replace z1 := (Below.frozen hq (p := ⟨w.heap.size, 1, none⟩) (World.block_lt_of_cell? _ _ r1)).trans z1
            replace r1 := later hq r1
            replace z2 := (Below.frozen hq (p := ⟨w.heap.size, 2, none⟩) (World.block_lt_of_cell? _ _ r2)).trans z2
            replace r2 := later hq r2
            replace z3 := (Below.frozen hq (p := ⟨w.heap.size, 3, none⟩) (World.block_lt_of_cell? _ _ r3)).trans z3
            replace r3 := later hq r3
            replace yr := yr.later hq
            replace hB := thru hB hq
            replace hzW : w1.heap.size ≤ Y1.heap.size := Nat.le_trans hzW (Below.size hq)
            clear hq hwY1
            try simp only [Act.put, List.setIfInBounds_toArray, List.set_cons_zero, List.set_cons_succ]
            rw [wpSchedB]
            simp only [pick, List.map_nil, Array.getD_eq_getD_getElem?, List.getElem?_toArray, List.getElem?_cons_succ, List.getElem?_cons_zero, Option.getD_some]
            refine wpQuiet_nil ?_
            refine ⟨?_, ?_⟩
            · have hbase : w1.heap.size ≤ W.heap.size := hzW0
              have hwb : w.heap.size < W.heap.size := Nat.lt_of_lt_of_le hz1 hzW0
              refine heavyB_want (by rfl) (fun K' hK' => ?_)
              refine wp_app _ _ rfl (l := []) (B := W.heap.size) ho rfl (m := r) rfl yr (fun h => by cases h) (by simp; omega) (show [] ++ r = r from rfl) (Nat.le_of_lt (OwnsB.low ho _ rfl).2) ?_
              intro x3 c3 Y2 ho3 hb3 ht3
              refine hK' _ _ (hb3.mono hbase) ?_
              clear hK' K'
              replace z0 := (Below.frozen hb3 (p := ⟨w.heap.size, 0, none⟩) hwb).trans z0
              replace r0 := later_lt hb3 hwb r0
              replace z1 := (Below.frozen hb3 (p := ⟨w.heap.size, 1, none⟩) hwb).trans z1
              replace r1 := later_lt hb3 hwb r1
              replace z2 := (Below.frozen hb3 (p := ⟨w.heap.size, 2, none⟩) hwb).trans z2
              replace r2 := later_lt hb3 hwb r2
              replace z3 := (Below.frozen hb3 (p := ⟨w.heap.size, 3, none⟩) hwb).trans z3
              replace r3 := later_lt hb3 hwb r3
              replace hB := hB.trans (hb3.mono (Nat.le_of_lt hwb))
              replace hzW : w1.heap.size ≤ Y2.heap.size := Nat.le_trans hzW hb3.size
              replace ho3 := ho3.weaken hbase
              clear ho hb3 ht3 yr
              try simp only [Act.put, List.setIfInBounds_toArray, List.set_cons_zero, List.set_cons_succ]
              rw [wpSchedB]
              simp only [pick, List.map_cons, List.map_nil, Array.getD_eq_getD_getElem?, List.getElem?_toArray, List.getElem?_cons_succ, List.getElem?_cons_zero, Option.getD_some]
              repeat (first | go_big_quiet_step (fail) | quiet_step (fail))
              refine wpQuiet_nil ?_
              have hz2 := hzW
              refine heavyB_want (by rfl) (fun K' hK' => ?_)
              go_simp
              refine hK' _ _ ((Below.refl _ _).alloc (hzW) _) ?_
              clear hK' K'
              obtain ⟨Y3, hwY3⟩ : ∃ X, Y2.alloc (.cells #[.int .i64 0, .int .i64 0, .int .i64 0, .slice none 0 0] 24) = X := ⟨_, rfl⟩
              rw [hwY3]
              have hq : Below Y2.heap.size Y2 Y3 := by rw [← hwY3]; exact al (Below.refl _ Y2) _
              have n0 : Y3.cell? ⟨Y2.heap.size, 0, none⟩ = some (.int .i64 0) := by rw [← hwY3]; exact cell_new _ _ _ _ _
              have fz0 : Y3.frozen? ⟨Y2.heap.size, 0, none⟩ = false := by rw [← hwY3]; clear hwY3; go_simp
              have n1 : Y3.cell? ⟨Y2.heap.size, 1, none⟩ = some (.int .i64 0) := by rw [← hwY3]; exact cell_new _ _ _ _ _
              have fz1 : Y3.frozen? ⟨Y2.heap.size, 1, none⟩ = false := by rw [← hwY3]; clear hwY3; go_simp
              have n2 : Y3.cell? ⟨Y2.heap.size, 2, none⟩ = some (.int .i64 0) := by rw [← hwY3]; exact cell_new _ _ _ _ _
              have fz2 : Y3.frozen? ⟨Y2.heap.size, 2, none⟩ = false := by rw [← hwY3]; clear hwY3; go_simp
              have n3 : Y3.cell? ⟨Y2.heap.size, 3, none⟩ = some (.slice none 0 0) := by rw [← hwY3]; exact cell_new _ _ _ _ _
              have fz3 : Y3.frozen? ⟨Y2.heap.size, 3, none⟩ = false := by rw [← hwY3]; clear hwY3; go_simp
              have hnb : Y2.heap.size < Y3.heap.size := by rw [← hwY3]; simp
              have hlow := fun b hb => (OwnsB.low ho3 b hb).2
              replace ho3 := ho3.turn (Turns.of_below hq (Nat.le_refl _)) (fun _ _ h => h)
              replace z0 := (Below.frozen hq (p := ⟨w.heap.size, 0, none⟩) (World.block_lt_of_cell? _ _ r0)).trans z0
              replace r0 := later hq r0
              replace z1 := (Below.frozen hq (p := ⟨w.heap.size, 1, none⟩) (World.block_lt_of_cell? _ _ r1)).trans z1
              replace r1 := later hq r1
              replace z2 := (Below.frozen hq (p := ⟨w.heap.size, 2, none⟩) (World.block_lt_of_cell? _ _ r2)).trans z2
              replace r2 := later hq r2
              replace z3 := (Below.frozen hq (p := ⟨w.heap.size, 3, none⟩) (World.block_lt_of_cell? _ _ r3)).trans z3
              replace r3 := later hq r3
              replace hB := thru hB hq
              replace hzW : w1.heap.size ≤ Y3.heap.size := Nat.le_trans hzW (Below.size hq)
              clear hq hwY3
              try simp only [Act.put, List.setIfInBounds_toArray, List.set_cons_zero, List.set_cons_succ]
              rw [wpSchedB]
              simp only [pick, List.map_nil, Array.getD_eq_getD_getElem?, List.getElem?_toArray, List.getElem?_cons_succ, List.getElem?_cons_zero, Option.getD_some]
              refine wpQuiet_nil ?_
              have hgf : w1.heap.size ≤ Y2.heap.size := hz2
              have hsep : ∀ b, RowOf x3 b → ¬ b = Y2.heap.size := fun b hb e => by have := hlow b hb; omega
              refine heavyB_want (by rfl) (fun K' hK' => ?_)
              go_simp
              refine hK' _ _ (four_set (Below.refl _ _) hgf _ _ _ _) ?_
              clear hK' K'
              obtain ⟨V, hV⟩ : ∃ X, ((((Y3.setCell ⟨Y2.heap.size, 0, none⟩ (.int .i64 (a.toNat : Int))).setCell ⟨Y2.heap.size, 1, none⟩ (.int .i64 (b.toNat : Int))).setCell ⟨Y2.heap.size, 2, none⟩ (.int .i64 (d.toNat : Int))).setCell ⟨Y2.heap.size, 3, none⟩ (.slice x3 r.length c3)) = X := ⟨_, rfl⟩
              rw [hV]
              obtain ⟨v0, v1, v2, v3⟩ := four_cells n0 n1 n2 n3 (.int .i64 (a.toNat : Int)) (.int .i64 (b.toNat : Int)) (.int .i64 (d.toNat : Int)) (.slice x3 r.length c3)
              rw [hV] at v0 v1 v2 v3
              have hbV : Below w1.heap.size Y3 V := by rw [← hV]; exact four_set (Below.refl _ _) hgf _ _ _ _
              have htV : Turns (fun k => k = Y2.heap.size) Y3 V := by rw [← hV]; exact four_turn _ _ _ _ _ _
              replace z0 := (Below.frozen hbV (p := ⟨w.heap.size, 0, none⟩) hz1).trans z0
              replace r0 := later_lt hbV hz1 r0
              replace z1 := (Below.frozen hbV (p := ⟨w.heap.size, 1, none⟩) hz1).trans z1
              replace r1 := later_lt hbV hz1 r1
              replace z2 := (Below.frozen hbV (p := ⟨w.heap.size, 2, none⟩) hz1).trans z2
              replace r2 := later_lt hbV hz1 r2
              replace z3 := (Below.frozen hbV (p := ⟨w.heap.size, 3, none⟩) hz1).trans z3
              replace r3 := later_lt hbV hz1 r3
              replace hB := hB.trans (hbV.mono (Nat.le_of_lt hz1))
              replace hnb := Nat.lt_of_lt_of_le hnb hbV.size
              have ho4 := ho3.turn htV (fun b hb e => hsep b hb e)
              clear hV hbV htV n0 n1 n2 n3 fz0 fz1 fz2 fz3 ho3 hsep
              try simp only [Act.put, List.setIfInBounds_toArray, List.set_cons_zero, List.set_cons_succ]
              rw [wpSchedB]
              simp only [List.map_nil]
              refine wpQuiet_nil ?_
              have HO4 := Lib.hid ho4
              clear ho4
              go_wp2_with fail
              refine (refvalid_any _ _ _ x3 r.length c3 _).mono ?_
              rintro e w9 ⟨rfl, hq⟩
              rw [HVQ.out]
              replace z0 := (Below.frozen hq (p := ⟨w.heap.size, 0, none⟩) (World.block_lt_of_cell? _ _ r0)).trans z0
              replace r0 := later hq r0
              replace v0 := later hq v0
              replace z1 := (Below.frozen hq (p := ⟨w.heap.size, 1, none⟩) (World.block_lt_of_cell? _ _ r1)).trans z1
              replace r1 := later hq r1
              replace v1 := later hq v1
              replace z2 := (Below.frozen hq (p := ⟨w.heap.size, 2, none⟩) (World.block_lt_of_cell? _ _ r2)).trans z2
              replace r2 := later hq r2
              replace v2 := later hq v2
              replace z3 := (Below.frozen hq (p := ⟨w.heap.size, 3, none⟩) (World.block_lt_of_cell? _ _ r3)).trans z3
              replace r3 := later hq r3
              replace v3 := later hq v3
              replace hB := thru hB hq
              have HO5 := Lib.hid (HO4.out.turn (Turns.of_below hq (Nat.le_refl _)) (fun _ _ h => h))
              clear hq HO4
              cases q
              · have HP : Hid ((splitC l).bind parseM = none) := by show _ = _; rw [Hs.out, Option.bind_some, HPM.out, if_neg (by decide)]
                have HC : Hid ((if splitC l = none then (40 : Int) else 170) = 170) := by show _ = _; rw [Hs.out]; rfl
                go_wp2_with fail
                exact bodyPost_ret (v := .tuple #[frV 0 0 0 none 0 0, .int .i64 170]) (by obtain ⟨e0, e1, e2, e3⟩ := four_cells r0 r1 r2 r3 (.int .i64 0) (.int .i64 0) (.int .i64 0) (.slice none 0 0); simp [results, Tryd.results33, go_sem, frV, e0, e1, e2, e3]) rfl ⟨four_set hB (Nat.le_refl _) _ _ _ _, .inr ⟨HP.out, by rw [HC.out]⟩⟩
              · have HP : Hid (parseM (a :: b :: d :: e0 :: r) = some (a, b, d, r)) := by show _ = _; rw [HPM.out, if_pos rfl]
                go_wp2_with fail
                refine bodyPost_ret (v := .tuple #[frV (a.toNat : Int) (b.toNat : Int) (d.toNat : Int) x3 r.length c3, .int .i64 0]) (by obtain ⟨e0, e1, e2, e3⟩ := four_cells r0 r1 r2 r3 (.int .i64 (a.toNat : Int)) (.int .i64 (b.toNat : Int)) (.int .i64 (d.toNat : Int)) (.slice x3 r.length c3); simp [results, Tryd.results33, go_sem, frV, e0, e1, e2, e3]) rfl ⟨four_set hB (Nat.le_refl _) _ _ _ _, .inl ⟨_, a, b, d, r, x3, c3, Hs.out, HP.out, rfl, ?_⟩⟩
                exact (HO5.out.weaken (Nat.le_of_lt hz1)).turn (four_turn w.heap.size _ _ _ _ _) (fun b hb e => by have := (HO5.out.low b hb).1; omega)
            · have hz2 := hzW
              refine heavyB_want (by rfl) (fun K' hK' => ?_)
              go_simp
              refine hK' _ _ ((Below.refl _ _).alloc (hzW) _) ?_
              clear hK' K'
              obtain ⟨Y2, hwY2⟩ : ∃ X, Y1.alloc (.cells #[.int .i64 0, .int .i64 0, .int .i64 0, .slice none 0 0] 24) = X := ⟨_, rfl⟩
              rw [hwY2]
              have hq : Below Y1.heap.size Y1 Y2 := by rw [← hwY2]; exact al (Below.refl _ Y1) _
              have n0 : Y2.cell? ⟨Y1.heap.size, 0, none⟩ = some (.int .i64 0) := by rw [← hwY2]; exact cell_new _ _ _ _ _
              have fz0 : Y2.frozen? ⟨Y1.heap.size, 0, none⟩ = false := by rw [← hwY2]; clear hwY2; go_simp
              have n1 : Y2.cell? ⟨Y1.heap.size, 1, none⟩ = some (.int .i64 0) := by rw [← hwY2]; exact cell_new _ _ _ _ _
              have fz1 : Y2.frozen? ⟨Y1.heap.size, 1, none⟩ = false := by rw [← hwY2]; clear hwY2; go_simp
              have n2 : Y2.cell? ⟨Y1.heap.size, 2, none⟩ = some (.int .i64 0) := by rw [← hwY2]; exact cell_new _ _ _ _ _
              have fz2 : Y2.frozen? ⟨Y1.heap.size, 2, none⟩ = false := by rw [← hwY2]; clear hwY2; go_simp
              have n3 : Y2.cell? ⟨Y1.heap.size, 3, none⟩ = some (.slice none 0 0) := by rw [← hwY2]; exact cell_new _ _ _ _ _
              have fz3 : Y2.frozen? ⟨Y1.heap.size, 3, none⟩ = false := by rw [← hwY2]; clear hwY2; go_simp
              have hnb : Y1.heap.size < Y2.heap.size := by rw [← hwY2]; simp
              have hlow := fun b hb => (OwnsB.low ho b hb).2
              replace ho := ho.turn (Turns.of_below hq (Nat.le_refl _)) (fun _ _ h => h)
              replace z0 := (Below.frozen hq (p := ⟨w.heap.size, 0, none⟩) (World.block_lt_of_cell? _ _ r0)).trans z0
              replace r0 := later hq r0
              replace z1 := (Below.frozen hq (p := ⟨w.heap.size, 1, none⟩) (World.block_lt_of_cell? _ _ r1)).trans z1
              replace r1 := later hq r1
              replace z2 := (Below.frozen hq (p := ⟨w.heap.size, 2, none⟩) (World.block_lt_of_cell? _ _ r2)).trans z2
              replace r2 := later hq r2
              replace z3 := (Below.frozen hq (p := ⟨w.heap.size, 3, none⟩) (World.block_lt_of_cell? _ _ r3)).trans z3
              replace r3 := later hq r3
              replace yr := yr.later hq
              replace hB := thru hB hq
              replace hzW : w1.heap.size ≤ Y2.heap.size := Nat.le_trans hzW (Below.size hq)
              clear hq hwY2
              try simp only [Act.put, List.setIfInBounds_toArray, List.set_cons_zero, List.set_cons_succ]
              rw [wpSchedB]
              simp only [pick, List.map_nil, Array.getD_eq_getD_getElem?, List.getElem?_toArray, List.getElem?_cons_succ, List.getElem?_cons_zero, Option.getD_some]
              refine wpQuiet_nil ?_
              have hbase : w1.heap.size ≤ W.heap.size := hzW0
              have hwb : w.heap.size < W.heap.size := Nat.lt_of_lt_of_le hz1 hzW0
              have hne : W.heap.size < Y1.heap.size := hlow _ rfl
              have hz3 := hnb
              refine heavyB_want (by rfl) (fun K' hK' => ?_)
              refine wp_app _ _ rfl (l := []) (B := W.heap.size) ho rfl (m := r) rfl yr (fun h => by cases h) (by simp; omega) (show [] ++ r = r from rfl) (Nat.le_of_lt (OwnsB.low ho _ rfl).2) ?_
              intro x3 c3 Y3 ho3 hb3 ht3
              refine hK' _ _ (hb3.mono hbase) ?_
              clear hK' K'
              replace z0 := (Below.frozen hb3 (p := ⟨w.heap.size, 0, none⟩) hwb).trans z0
              replace r0 := later_lt hb3 hwb r0
              replace z1 := (Below.frozen hb3 (p := ⟨w.heap.size, 1, none⟩) hwb).trans z1
              replace r1 := later_lt hb3 hwb r1
              replace z2 := (Below.frozen hb3 (p := ⟨w.heap.size, 2, none⟩) hwb).trans z2
              replace r2 := later_lt hb3 hwb r2
              replace z3 := (Below.frozen hb3 (p := ⟨w.heap.size, 3, none⟩) hwb).trans z3
              replace r3 := later_lt hb3 hwb r3
              replace fz0 := ht3.frozen (p := ⟨Y1.heap.size, 0, none⟩) (by intro h; simp only [RowOf, Value.ownBlock, Option.some.injEq] at h; omega) hnb fz0
              replace n0 := ht3.cell (p := ⟨Y1.heap.size, 0, none⟩) (by intro h; simp only [RowOf, Value.ownBlock, Option.some.injEq] at h; omega) n0
              replace fz1 := ht3.frozen (p := ⟨Y1.heap.size, 1, none⟩) (by intro h; simp only [RowOf, Value.ownBlock, Option.some.injEq] at h; omega) hnb fz1
              replace n1 := ht3.cell (p := ⟨Y1.heap.size, 1, none⟩) (by intro h; simp only [RowOf, Value.ownBlock, Option.some.injEq] at h; omega) n1
              replace fz2 := ht3.frozen (p := ⟨Y1.heap.size, 2, none⟩) (by intro h; simp only [RowOf, Value.ownBlock, Option.some.injEq] at h; omega) hnb fz2
              replace n2 := ht3.cell (p := ⟨Y1.heap.size, 2, none⟩) (by intro h; simp only [RowOf, Value.ownBlock, Option.some.injEq] at h; omega) n2
              replace fz3 := ht3.frozen (p := ⟨Y1.heap.size, 3, none⟩) (by intro h; simp only [RowOf, Value.ownBlock, Option.some.injEq] at h; omega) hnb fz3
              replace n3 := ht3.cell (p := ⟨Y1.heap.size, 3, none⟩) (by intro h; simp only [RowOf, Value.ownBlock, Option.some.injEq] at h; omega) n3
              replace hnb : Y1.heap.size < Y3.heap.size := Nat.lt_of_lt_of_le hnb hb3.size
              replace hB := hB.trans (hb3.mono (Nat.le_of_lt hwb))
              replace hzW : w1.heap.size ≤ Y3.heap.size := Nat.le_trans hzW hb3.size
              replace ho3 := ho3.weaken hbase
              clear ho hb3 ht3 yr
              try simp only [Act.put, List.setIfInBounds_toArray, List.set_cons_zero, List.set_cons_succ]
              rw [wpSchedB]
              simp only [pick, List.map_cons, List.map_nil, Array.getD_eq_getD_getElem?, List.getElem?_toArray, List.getElem?_cons_succ, List.getElem?_cons_zero, Option.getD_some]
              repeat (first | go_big_quiet_step (fail) | quiet_step (fail))
              refine wpQuiet_nil ?_
              have hgf : w1.heap.size ≤ Y1.heap.size := hz2
              have hsep : ∀ b, RowOf x3 b → ¬ b = Y1.heap.size := fun b hb e => by
                obtain ⟨g3, rfl⟩ := ho3.some_of (by omega)
                simp only [RowOf, Value.ownBlock, Option.some.injEq] at hb
                subst hb
                have h1 := ho3.cell 0 (by omega)
                rw [e, n0] at h1
                simp at h1
              refine heavyB_want (by rfl) (fun K' hK' => ?_)
              go_simp
              refine hK' _ _ (four_set (Below.refl _ _) hgf _ _ _ _) ?_
              clear hK' K'
              obtain ⟨V, hV⟩ : ∃ X, ((((Y3.setCell ⟨Y1.heap.size, 0, none⟩ (.int .i64 (a.toNat : Int))).setCell ⟨Y1.heap.size, 1, none⟩ (.int .i64 (b.toNat : Int))).setCell ⟨Y1.heap.size, 2, none⟩ (.int .i64 (d.toNat : Int))).setCell ⟨Y1.heap.size, 3, none⟩ (.slice x3 r.length c3)) = X := ⟨_, rfl⟩
              rw [hV]
              obtain ⟨v0, v1, v2, v3⟩ := four_cells n0 n1 n2 n3 (.int .i64 (a.toNat : Int)) (.int .i64 (b.toNat : Int)) (.int .i64 (d.toNat : Int)) (.slice x3 r.length c3)
              rw [hV] at v0 v1 v2 v3
              have hbV : Below w1.heap.size Y3 V := by rw [← hV]; exact four_set (Below.refl _ _) hgf _ _ _ _
              have htV : Turns (fun k => k = Y1.heap.size) Y3 V := by rw [← hV]; exact four_turn _ _ _ _ _ _
              replace z0 := (Below.frozen hbV (p := ⟨w.heap.size, 0, none⟩) hz1).trans z0
              replace r0 := later_lt hbV hz1 r0
              replace z1 := (Below.frozen hbV (p := ⟨w.heap.size, 1, none⟩) hz1).trans z1
              replace r1 := later_lt hbV hz1 r1
              replace z2 := (Below.frozen hbV (p := ⟨w.heap.size, 2, none⟩) hz1).trans z2
              replace r2 := later_lt hbV hz1 r2
              replace z3 := (Below.frozen hbV (p := ⟨w.heap.size, 3, none⟩) hz1).trans z3
              replace r3 := later_lt hbV hz1 r3
              replace hB := hB.trans (hbV.mono (Nat.le_of_lt hz1))
              replace hnb := Nat.lt_of_lt_of_le hnb hbV.size
              have ho4 := ho3.turn htV (fun b hb e => hsep b hb e)
              clear hV hbV htV n0 n1 n2 n3 fz0 fz1 fz2 fz3 ho3 hsep
              try simp only [Act.put, List.setIfInBounds_toArray, List.set_cons_zero, List.set_cons_succ]
              rw [wpSchedB]
              simp only [List.map_nil]
              refine wpQuiet_nil ?_
              have HO4 := Lib.hid ho4
              clear ho4
              go_wp2_with fail
              refine (refvalid_any _ _ _ x3 r.length c3 _).mono ?_
              rintro e w9 ⟨rfl, hq⟩
              rw [HVQ.out]
              replace z0 := (Below.frozen hq (p := ⟨w.heap.size, 0, none⟩) (World.block_lt_of_cell? _ _ r0)).trans z0
              replace r0 := later hq r0
              replace v0 := later hq v0
              replace z1 := (Below.frozen hq (p := ⟨w.heap.size, 1, none⟩) (World.block_lt_of_cell? _ _ r1)).trans z1
              replace r1 := later hq r1
              replace v1 := later hq v1
              replace z2 := (Below.frozen hq (p := ⟨w.heap.size, 2, none⟩) (World.block_lt_of_cell? _ _ r2)).trans z2
              replace r2 := later hq r2
              replace v2 := later hq v2
              replace z3 := (Below.frozen hq (p := ⟨w.heap.size, 3, none⟩) (World.block_lt_of_cell? _ _ r3)).trans z3
              replace r3 := later hq r3
              replace v3 := later hq v3
              replace hB := thru hB hq
              have HO5 := Lib.hid (HO4.out.turn (Turns.of_below hq (Nat.le_refl _)) (fun _ _ h => h))
              clear hq HO4
              cases q
              · have HP : Hid ((splitC l).bind parseM = none) := by show _ = _; rw [Hs.out, Option.bind_some, HPM.out, if_neg (by decide)]
                have HC : Hid ((if splitC l = none then (40 : Int) else 170) = 170) := by show _ = _; rw [Hs.out]; rfl
                go_wp2_with fail
                exact bodyPost_ret (v := .tuple #[frV 0 0 0 none 0 0, .int .i64 170]) (by obtain ⟨e0, e1, e2, e3⟩ := four_cells r0 r1 r2 r3 (.int .i64 0) (.int .i64 0) (.int .i64 0) (.slice none 0 0); simp [results, Tryd.results33, go_sem, frV, e0, e1, e2, e3]) rfl ⟨four_set hB (Nat.le_refl _) _ _ _ _, .inr ⟨HP.out, by rw [HC.out]⟩⟩
              · have HP : Hid (parseM (a :: b :: d :: e0 :: r) = some (a, b, d, r)) := by show _ = _; rw [HPM.out, if_pos rfl]
                go_wp2_with fail
                refine bodyPost_ret (v := .tuple #[frV (a.toNat : Int) (b.toNat : Int) (d.toNat : Int) x3 r.length c3, .int .i64 0]) (by obtain ⟨e0, e1, e2, e3⟩ := four_cells r0 r1 r2 r3 (.int .i64 (a.toNat : Int)) (.int .i64 (b.toNat : Int)) (.int .i64 (d.toNat : Int)) (.slice x3 r.length c3); simp [results, Tryd.results33, go_sem, frV, e0, e1, e2, e3]) rfl ⟨four_set hB (Nat.le_refl _) _ _ _ _, .inl ⟨_, a, b, d, r, x3, c3, Hs.out, HP.out, rfl, ?_⟩⟩
                exact (HO5.out.weaken (Nat.le_of_lt hz1)).turn (four_turn w.heap.size _ _ _ _ _) (fun b hb e => by have := (HO5.out.low b hb).1; omega)
          · have hzW0 := hzW
            refine heavyB_want (by rfl) (fun K' hK' => ?_)
            go_simp
            refine hK' _ _ ((Below.refl _ _).alloc (hzW) _) ?_
            clear hK' K'
            obtain ⟨Y1, hwY1⟩ : ∃ X, W.alloc (.cells #[.int .i64 0, .int .i64 0, .int .i64 0, .slice none 0 0] 24) = X := ⟨_, rfl⟩
            rw [hwY1]
            have hq : Below W.heap.size W Y1 := by rw [← hwY1]; exact al (Below.refl _ W) _
            have n0 : Y1.cell? ⟨W.heap.size, 0, none⟩ = some (.int .i64 0) := by rw [← hwY1]; exact cell_new _ _ _ _ _
            have fz0 : Y1.frozen? ⟨W.heap.size, 0, none⟩ = false := by rw [← hwY1]; clear hwY1; go_simp
            have n1 : Y1.cell? ⟨W.heap.size, 1, none⟩ = some (.int .i64 0) := by rw [← hwY1]; exact cell_new _ _ _ _ _
            have fz1 : Y1.frozen? ⟨W.heap.size, 1, none⟩ = false := by rw [← hwY1]; clear hwY1; go_simp
            have n2 : Y1.cell? ⟨W.heap.size, 2, none⟩ = some (.int .i64 0) := by rw [← hwY1]; exact cell_new _ _ _ _ _
            have fz2 : Y1.frozen? ⟨W.heap.size, 2, none⟩ = false := by rw [← hwY1]; clear hwY1; go_simp
            have n3 : Y1.cell? ⟨W.heap.size, 3, none⟩ = some (.slice none 0 0) := by rw [← hwY1]; exact cell_new _ _ _ _ _
            have fz3 : Y1.frozen? ⟨W.heap.size, 3, none⟩ = false := by rw [← hwY1]; clear hwY1; go_simp
            have hnb : W.heap.size < Y1.heap.size := by rw [← hwY1]; simp
            replace z0 := (Below.frozen hq (p := ⟨w.heap.size, 0, none⟩) (World.block_lt_of_cell? _ _ r0)).trans z0
            replace r0 := later hq r0
            replace z1 := (Below.frozen hq (p := ⟨w.heap.size, 1, none⟩) (World.block_lt_of_cell? _ _ r1)).trans z1
            replace r1 := later hq r1
            replace z2 := (Below.frozen hq (p := ⟨w.heap.size, 2, none⟩) (World.block_lt_of_cell? _ _ r2)).trans z2
            replace r2 := later hq r2
            replace z3 := (Below.frozen hq (p := ⟨w.heap.size, 3, none⟩) (World.block_lt_of_cell? _ _ r3)).trans z3
            replace r3 := later hq r3
            replace yr := yr.later hq
            replace hB := thru hB hq
            replace hzW : w1.heap.size ≤ Y1.heap.size := Nat.le_trans hzW (Below.size hq)
            clear hq hwY1
            try simp only [Act.put, List.setIfInBounds_toArray, List.set_cons_zero, List.set_cons_succ]
            rw [wpSchedB]
            simp only [pick, List.map_nil, Array.getD_eq_getD_getElem?, List.getElem?_toArray, List.getElem?_cons_succ, List.getElem?_cons_zero, Option.getD_some]
            refine wpQuiet_nil ?_
            have hz4 := hzW
            have hn1 := hnb
            refine heavyB_want (by rfl) (fun K' hK' => ?_)
            go_simp
            refine hK' _ _ ((Below.refl _ _).alloc (hzW) _) ?_
            clear hK' K'
            obtain ⟨Y2, hwY2⟩ : ∃ X, Y1.alloc (.cells #[] 5) = X := ⟨_, rfl⟩
            rw [hwY2]
            have hq : Below Y1.heap.size Y1 Y2 := by rw [← hwY2]; exact al (Below.refl _ Y1) _
            have ho : OwnsB Y1.heap.size Y2 (some ⟨Y1.heap.size, 0, none⟩) 0 [] := by rw [← hwY2]; exact OwnsB.made' _ _ _ (Nat.le_refl _) rfl
            replace n0 := later hq n0
            replace fz0 := (Below.frozen hq (p := ⟨W.heap.size, 0, none⟩) hnb).trans fz0
            replace n1 := later hq n1
            replace fz1 := (Below.frozen hq (p := ⟨W.heap.size, 1, none⟩) hnb).trans fz1
            replace n2 := later hq n2
            replace fz2 := (Below.frozen hq (p := ⟨W.heap.size, 2, none⟩) hnb).trans fz2
            replace n3 := later hq n3
            replace fz3 := (Below.frozen hq (p := ⟨W.heap.size, 3, none⟩) hnb).trans fz3
            replace hnb : W.heap.size < Y2.heap.size := Nat.lt_of_lt_of_le hnb hq.size
            replace z0 := (Below.frozen hq (p := ⟨w.heap.size, 0, none⟩) (World.block_lt_of_cell? _ _ r0)).trans z0
            replace r0 := later hq r0
            replace z1 := (Below.frozen hq (p := ⟨w.heap.size, 1, none⟩) (World.block_lt_of_cell? _ _ r1)).trans z1
            replace r1 := later hq r1
            replace z2 := (Below.frozen hq (p := ⟨w.heap.size, 2, none⟩) (World.block_lt_of_cell? _ _ r2)).trans z2
            replace r2 := later hq r2
            replace z3 := (Below.frozen hq (p := ⟨w.heap.size, 3, none⟩) (World.block_lt_of_cell? _ _ r3)).trans z3
            replace r3 := later hq r3
            replace yr := yr.later hq
            replace hB := thru hB hq
            replace hzW : w1.heap.size ≤ Y2.heap.size := Nat.le_trans hzW (Below.size hq)
            clear hq hwY2
            try simp only [Act.put, List.setIfInBounds_toArray, List.set_cons_zero, List.set_cons_succ]
            rw [wpSchedB]
            simp only [pick, List.map_nil, Array.getD_eq_getD_getElem?, List.getElem?_toArray, List.getElem?_cons_succ, List.getElem?_cons_zero, Option.getD_some]
            refine wpQuiet_nil ?_
            have hbase : w1.heap.size ≤ Y1.heap.size := hz4
            have hwb : w.heap.size < Y1.heap.size := Nat.lt_of_lt_of_le hz1 hz4
            refine heavyB_want (by rfl) (fun K' hK' => ?_)
            refine wp_app _ _ rfl (l := []) (B := Y1.heap.size) ho rfl (m := r) rfl yr (fun h => by cases h) (by simp; omega) (show [] ++ r = r from rfl) (Nat.le_of_lt (OwnsB.low ho _ rfl).2) ?_
            intro x3 c3 Y3 ho3 hb3 ht3
            refine hK' _ _ (hb3.mono hbase) ?_
            clear hK' K'
            replace z0 := (Below.frozen hb3 (p := ⟨w.heap.size, 0, none⟩) hwb).trans z0
            replace r0 := later_lt hb3 hwb r0
            replace z1 := (Below.frozen hb3 (p := ⟨w.heap.size, 1, none⟩) hwb).trans z1
            replace r1 := later_lt hb3 hwb r1
            replace z2 := (Below.frozen hb3 (p := ⟨w.heap.size, 2, none⟩) hwb).trans z2
            replace r2 := later_lt hb3 hwb r2
            replace z3 := (Below.frozen hb3 (p := ⟨w.heap.size, 3, none⟩) hwb).trans z3
            replace r3 := later_lt hb3 hwb r3
            replace fz0 := ht3.frozen (p := ⟨W.heap.size, 0, none⟩) (by intro h; simp only [RowOf, Value.ownBlock, Option.some.injEq] at h; omega) hnb fz0
            replace n0 := ht3.cell (p := ⟨W.heap.size, 0, none⟩) (by intro h; simp only [RowOf, Value.ownBlock, Option.some.injEq] at h; omega) n0
            replace fz1 := ht3.frozen (p := ⟨W.heap.size, 1, none⟩) (by intro h; simp only [RowOf, Value.ownBlock, Option.some.injEq] at h; omega) hnb fz1
            replace n1 := ht3.cell (p := ⟨W.heap.size, 1, none⟩) (by intro h; simp only [RowOf, Value.ownBlock, Option.some.injEq] at h; omega) n1
            replace fz2 := ht3.frozen (p := ⟨W.heap.size, 2, none⟩) (by intro h; simp only [RowOf, Value.ownBlock, Option.some.injEq] at h; omega) hnb fz2
            replace n2 := ht3.cell (p := ⟨W.heap.size, 2, none⟩) (by intro h; simp only [RowOf, Value.ownBlock, Option.some.injEq] at h; omega) n2
            replace fz3 := ht3.frozen (p := ⟨W.heap.size, 3, none⟩) (by intro h; simp only [RowOf, Value.ownBlock, Option.some.injEq] at h; omega) hnb fz3
            replace n3 := ht3.cell (p := ⟨W.heap.size, 3, none⟩) (by intro h; simp only [RowOf, Value.ownBlock, Option.some.injEq] at h; omega) n3
            replace hnb : W.heap.size < Y3.heap.size := Nat.lt_of_lt_of_le hnb hb3.size
            replace hB := hB.trans (hb3.mono (Nat.le_of_lt hwb))
            replace hzW : w1.heap.size ≤ Y3.heap.size := Nat.le_trans hzW hb3.size
            replace ho3 := ho3.weaken hbase
            clear ho hb3 ht3 yr
            try simp only [Act.put, List.setIfInBounds_toArray, List.set_cons_zero, List.set_cons_succ]
            rw [wpSchedB]
            simp only [pick, List.map_cons, List.map_nil, Array.getD_eq_getD_getElem?, List.getElem?_toArray, List.getElem?_cons_succ, List.getElem?_cons_zero, Option.getD_some]
            repeat (first | go_big_quiet_step (fail) | quiet_step (fail))
            refine wpQuiet_nil ?_
            have hgf : w1.heap.size ≤ W.heap.size := hzW0
            have hsep : ∀ b, RowOf x3 b → ¬ b = W.heap.size := fun b hb e => by
              obtain ⟨g3, rfl⟩ := ho3.some_of (by omega)
              simp only [RowOf, Value.ownBlock, Option.some.injEq] at hb
              subst hb
              have h1 := ho3.cell 0 (by omega)
              rw [e, n0] at h1
              simp at h1
            refine heavyB_want (by rfl) (fun K' hK' => ?_)
            go_simp
            refine hK' _ _ (four_set (Below.refl _ _) hgf _ _ _ _) ?_
            clear hK' K'
            obtain ⟨V, hV⟩ : ∃ X, ((((Y3.setCell ⟨W.heap.size, 0, none⟩ (.int .i64 (a.toNat : Int))).setCell ⟨W.heap.size, 1, none⟩ (.int .i64 (b.toNat : Int))).setCell ⟨W.heap.size, 2, none⟩ (.int .i64 (d.toNat : Int))).setCell ⟨W.heap.size, 3, none⟩ (.slice x3 r.length c3)) = X := ⟨_, rfl⟩
            rw [hV]
            obtain ⟨v0, v1, v2, v3⟩ := four_cells n0 n1 n2 n3 (.int .i64 (a.toNat : Int)) (.int .i64 (b.toNat : Int)) (.int .i64 (d.toNat : Int)) (.slice x3 r.length c3)
            rw [hV] at v0 v1 v2 v3
            have hbV : Below w1.heap.size Y3 V := by rw [← hV]; exact four_set (Below.refl _ _) hgf _ _ _ _
            have htV : Turns (fun k => k = W.heap.size) Y3 V := by rw [← hV]; exact four_turn _ _ _ _ _ _
            replace z0 := (Below.frozen hbV (p := ⟨w.heap.size, 0, none⟩) hz1).trans z0
            replace r0 := later_lt hbV hz1 r0
            replace z1 := (Below.frozen hbV (p := ⟨w.heap.size, 1, none⟩) hz1).trans z1
            replace r1 := later_lt hbV hz1 r1
            replace z2 := (Below.frozen hbV (p := ⟨w.heap.size, 2, none⟩) hz1).trans z2
            replace r2 := later_lt hbV hz1 r2
            replace z3 := (Below.frozen hbV (p := ⟨w.heap.size, 3, none⟩) hz1).trans z3
            replace r3 := later_lt hbV hz1 r3
            replace hB := hB.trans (hbV.mono (Nat.le_of_lt hz1))
            replace hnb := Nat.lt_of_lt_of_le hnb hbV.size
            have ho4 := ho3.turn htV (fun b hb e => hsep b hb e)
            clear hV hbV htV n0 n1 n2 n3 fz0 fz1 fz2 fz3 ho3 hsep
            try simp only [Act.put, List.setIfInBounds_toArray, List.set_cons_zero, List.set_cons_succ]
            rw [wpSchedB]
            simp only [List.map_nil]
            refine wpQuiet_nil ?_
            have HO4 := Lib.hid ho4
            clear ho4
            go_wp2_with fail
            refine (refvalid_any _ _ _ x3 r.length c3 _).mono ?_
            rintro e w9 ⟨rfl, hq⟩
            rw [HVQ.out]
            replace z0 := (Below.frozen hq (p := ⟨w.heap.size, 0, none⟩) (World.block_lt_of_cell? _ _ r0)).trans z0
            replace r0 := later hq r0
            replace v0 := later hq v0
            replace z1 := (Below.frozen hq (p := ⟨w.heap.size, 1, none⟩) (World.block_lt_of_cell? _ _ r1)).trans z1
            replace r1 := later hq r1
            replace v1 := later hq v1
            replace z2 := (Below.frozen hq (p := ⟨w.heap.size, 2, none⟩) (World.block_lt_of_cell? _ _ r2)).trans z2
            replace r2 := later hq r2
            replace v2 := later hq v2
            replace z3 := (Below.frozen hq (p := ⟨w.heap.size, 3, none⟩) (World.block_lt_of_cell? _ _ r3)).trans z3
            replace r3 := later hq r3
            replace v3 := later hq v3
            replace hB := thru hB hq
            have HO5 := Lib.hid (HO4.out.turn (Turns.of_below hq (Nat.le_refl _)) (fun _ _ h => h))
            clear hq HO4
            cases q
            · have HP : Hid ((splitC l).bind parseM = none) := by show _ = _; rw [Hs.out, Option.bind_some, HPM.out, if_neg (by decide)]
              have HC : Hid ((if splitC l = none then (40 : Int) else 170) = 170) := by show _ = _; rw [Hs.out]; rfl
              go_wp2_with fail
              exact bodyPost_ret (v := .tuple #[frV 0 0 0 none 0 0, .int .i64 170]) (by obtain ⟨e0, e1, e2, e3⟩ := four_cells r0 r1 r2 r3 (.int .i64 0) (.int .i64 0) (.int .i64 0) (.slice none 0 0); simp [results, Tryd.results33, go_sem, frV, e0, e1, e2, e3]) rfl ⟨four_set hB (Nat.le_refl _) _ _ _ _, .inr ⟨HP.out, by rw [HC.out]⟩⟩
            · have HP : Hid (parseM (a :: b :: d :: e0 :: r) = some (a, b, d, r)) := by show _ = _; rw [HPM.out, if_pos rfl]
              go_wp2_with fail
              refine bodyPost_ret (v := .tuple #[frV (a.toNat : Int) (b.toNat : Int) (d.toNat : Int) x3 r.length c3, .int .i64 0]) (by obtain ⟨e0, e1, e2, e3⟩ := four_cells r0 r1 r2 r3 (.int .i64 (a.toNat : Int)) (.int .i64 (b.toNat : Int)) (.int .i64 (d.toNat : Int)) (.slice x3 r.length c3); simp [results, Tryd.results33, go_sem, frV, e0, e1, e2, e3]) rfl ⟨four_set hB (Nat.le_refl _) _ _ _ _, .inl ⟨_, a, b, d, r, x3, c3, Hs.out, HP.out, rfl, ?_⟩⟩
              exact (HO5.out.weaken (Nat.le_of_lt hz1)).turn (four_turn w.heap.size _ _ _ _ _) (fun b hb e => by have := (HO5.out.low b hb).1; omega)
        · have hq : ((e0.toNat : Int) != (r.length : Int)) = true := by simp; exact heq
          have hq1 : ((e0.toNat : Int) == (r.length : Int)) = false := by simp; exact heq
          have HP : Hid ((splitC l).bind parseM = none) := by
            show _ = _
            rw [Hs.out]
            show (if (((e0.toNat : Int) == (r.length : Int)) && vldF (a.toNat : Int) (b.toNat : Int) (d.toNat : Int) r.length) = true then some (a, b, d, r) else none) = none
            rw [hq1, if_neg (by simp)]
          have HC : Hid ((if splitC l = none then (40 : Int) else 170) = 170) := by show _ = _; rw [Hs.out]; rfl
          clear hq1 heq
          go_wp2_with fail
          exact bodyPost_ret (v := .tuple #[frV 0 0 0 none 0 0, .int .i64 170]) (by obtain ⟨e0, e1, e2, e3⟩ := four_cells r0 r1 r2 r3 (.int .i64 0) (.int .i64 0) (.int .i64 0) (.slice none 0 0); simp [results, Tryd.results33, go_sem, frV, e0, e1, e2, e3]) rfl ⟨four_set hB1 (Nat.le_refl _) _ _ _ _, .inr ⟨HP.out, by rw [HC.out]⟩⟩
  · have HP : Hid ((splitC l).bind parseM = none) := by show _ = _; rw [hs]; rfl
    have HC : Hid ((if splitC l = none then (40 : Int) else 170) = 40) := by show _ = _; rw [hs]; rfl
    have r0 := later (a := ⟨w.heap.size, 0, none⟩) (v := .int .i64 0) hb (by go_simp)
    have z0 := (Below.frozen hb (p := ⟨w.heap.size, 0, none⟩) (by simp)).trans (show _ = false by go_simp)
    have r1 := later (a := ⟨w.heap.size, 1, none⟩) (v := .int .i64 0) hb (by go_simp)
    have z1 := (Below.frozen hb (p := ⟨w.heap.size, 1, none⟩) (by simp)).trans (show _ = false by go_simp)
    have r2 := later (a := ⟨w.heap.size, 2, none⟩) (v := .int .i64 0) hb (by go_simp)
    have z2 := (Below.frozen hb (p := ⟨w.heap.size, 2, none⟩) (by simp)).trans (show _ = false by go_simp)
    have r3 := later (a := ⟨w.heap.size, 3, none⟩) (v := .slice none 0 0) hb (by go_simp)
    have z3 := (Below.frozen hb (p := ⟨w.heap.size, 3, none⟩) (by simp)).trans (show _ = false by go_simp)
    have hB1 := thru (al hB _) hb
    clear hs hb
    go_wp2_with fail
    exact bodyPost_ret (v := .tuple #[frV 0 0 0 none 0 0, .int .i64 40]) (by obtain ⟨e0, e1, e2, e3⟩ := four_cells r0 r1 r2 r3 (.int .i64 0) (.int .i64 0) (.int .i64 0) (.slice none 0 0); simp [results, Tryd.results33, go_sem, frV, e0, e1, e2, e3]) rfl ⟨four_set hB1 (Nat.le_refl _) _ _ _ _, .inr ⟨HP.out, by rw [HC.out]⟩⟩

end Go.Proofs.YtjnjjnkanbnliaaDoor
