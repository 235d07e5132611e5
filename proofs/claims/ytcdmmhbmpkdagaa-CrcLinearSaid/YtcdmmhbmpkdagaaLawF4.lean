/- WALKS of the laws of the crc layer: CrcLinear. -/
import Derived.Test.YtcdmmhbmpkdagaaCrcI
import Derived.Test.YtcdmmhbmpkdagaaFill
namespace Go.Proofs.Ytcdmmhbmpkdagaa
open Go.RowKit

theorem sum_at (x : Option Addr) (l : List UInt8) (n c : Nat) (w : World) (hn : l.length = n) (hx : Bts w x l) (hl : n ≤ 10000000) : Calls Try.prog 14 #[.slice x n c] w fun e w' => e = .returned (.int .u32 (n32 (Crc.sum l))) ∧ Below w.heap.size w w' := by
  subst hn; exact sum_any x l c w hx hl
theorem flipped_at (x : Option Addr) (l : List UInt8) (n cap c : Nat) (p : W32) (w : World) (hn : l.length = n) (hx : Bts w x l) (ho : x = none → cap = 0) (hl : n ≤ 1000) (hc : c ≤ 100000) :
    Calls Try.prog 12 #[.slice x n cap, .int .i64 (c : Int), .int .u32 (n32 p)] w (CloneOf (Crc.flipN (p ||| 1#32) c l 32) w) := by
  subst hn; exact flipped_any x l cap c p w hx ho hl hc

def LinRel (B : Nat) (w : World) (m : List UInt8) (u25 : Value) (wr : World) : Prop :=
  ∃ k : Nat, k ≤ m.length ∧ u25 = .int .i64 (k : Int) ∧ OwnsB B wr (some ⟨B, 0, none⟩) m.length (fillL m k) ∧ Below w.heap.size w wr

set_option maxRecDepth 100000 in
set_option maxHeartbeats 4000000 in
theorem linear_law (xa : Option Addr) (la : List UInt8) (ca : Nat) (xb : Option Addr) (lb : List UInt8) (cb : Nat) (xc : Option Addr) (lc : List UInt8) (cc : Nat) (at_ : Int) (p : W32) (w : World)
    (ya : Bts w xa la) (yb : Bts w xb lb) (yc : Bts w xc lc) (oa : xa = none → ca = 0) (ob : xb = none → cb = 0) (oc : xc = none → cc = 0) (ma : la.length ≤ ca ∧ lb.length ≤ cb ∧ lc.length ≤ cc)
    (h63 : la.length ≤ 9223372036854775807 ∧ lb.length ≤ 9223372036854775807 ∧ lc.length ≤ 9223372036854775807) (hat : -9223372036854775808 ≤ at_ ∧ at_ ≤ 9223372036854775807) :
    Calls Try.prog 5 #[.slice xa la.length ca, .slice xb lb.length cb, .slice xc lc.length cc, .int .i64 at_, .int .u32 (n32 p)] w (YesOf w) := by
  obtain ⟨h63a, h63b, h63c⟩ := h63
  obtain ⟨maa, mbb, mcc⟩ := ma
  obtain ⟨n, hn⟩ : ∃ n, min (min (min la.length lb.length) lc.length) 300 = n := ⟨_, rfl⟩
  have na : n ≤ la.length := by omega
  have nb : n ≤ lb.length := by omega
  have nc : n ≤ lc.length := by omega
  have n3 : n ≤ 300 := by omega
  have hmin : ∀ (ts : Array TypeId) (t : TypeId) (W : World), (Builtin.min_ ts t #[.int .i64 (la.length : Int), .int .i64 (lb.length : Int), .int .i64 (lc.length : Int), .int .i64 300]).run Try.prog W = .ok (.int .i64 (n : Int)) W := fun ts t W => by
    have e : (n : Int) = if (300 : Int) < (if (lc.length : Int) < (if (lb.length : Int) < (la.length : Int) then (lb.length : Int) else (la.length : Int)) then (lc.length : Int) else (if (lb.length : Int) < (la.length : Int) then (lb.length : Int) else (la.length : Int))) then 300 else (if (lc.length : Int) < (if (lb.length : Int) < (la.length : Int) then (lb.length : Int) else (la.length : Int)) then (lc.length : Int) else (if (lb.length : Int) < (la.length : Int) then (lb.length : Int) else (la.length : Int))) := by
      repeat' split <;> omega
    rw [e]
    simp [Builtin.min_, Builtin.min2]
  obtain ⟨m, hm⟩ : ∃ m, Crc.xorL (Crc.xorL (la.take n) (lb.take n)) (lc.take n) = m := ⟨_, rfl⟩
  have ta : (la.take n).length = n := by simp; omega
  have tb : (lb.take n).length = n := by simp; omega
  have tc : (lc.take n).length = n := by simp; omega
  have hml : m.length = n := by rw [← hm]; simp [Crc.xorL]; omega
  have hmk : ∀ k, k < n → m.getD k 0 = (la.getD k 0 ^^^ lb.getD k 0) ^^^ lc.getD k 0 := fun k hk => by
    have ht : ∀ l : List UInt8, (l.take n).getD k 0 = l.getD k 0 := fun l => by rw [List.getD_eq_getElem?_getD, List.getD_eq_getElem?_getD, List.getElem?_take, if_pos hk]
    rw [← hm, Crc.xorL3_getD _ _ _ k n ta tb tc hk, ht, ht, ht]
  have hsum := Crc.sum_xor3 (la.take n) (lb.take n) (lc.take n) (by omega) (by omega)
  rw [hm] at hsum
  obtain ⟨sa, hsa⟩ : ∃ s, Crc.sum (la.take n) = s := ⟨_, rfl⟩
  obtain ⟨sb, hsb⟩ : ∃ s, Crc.sum (lb.take n) = s := ⟨_, rfl⟩
  obtain ⟨sc, hsc⟩ : ∃ s, Crc.sum (lc.take n) = s := ⟨_, rfl⟩
  rw [hsa, hsb, hsc] at hsum
  have FA := Lib.hid hsa
  have FB := Lib.hid hsb
  have FC := Lib.hid hsc
  have HSUM := Lib.hid hsum
  have HMK := Lib.hid hmk
  clear hm hn hsum hmk hsa hsb hsc
  subst hml
  have hmk := run_zeros m.length (by omega)
  have hB := Below.refl w.heap.size w
  go_enter Try.func5, Try.ntmps5
  go_wp2_with fail
  clear hmin hmk
  go_loopw [25] (fun u25 wr => LinRel w.heap.size w m u25 wr) (fun u25 _ => m.length - (intOf u25).toNat)
  case atStart => exact ⟨0, by omega, rfl, OwnsB.zeros _ _ _ _ (Nat.le_refl _) rfl (by omega), al hB _⟩
  case round =>
    clear hB
    obtain ⟨k, hk, rfl, ho, hB⟩ := hrel
    have HO := Lib.hid ho
    clear ho
    by_cases hlt : k < m.length
    · have hkb : decide ((k : Int) < (m.length : Int)) = true := by simp; omega
      obtain ⟨ga, oa', rfl, hca⟩ := ya.resolve_left (fun e => by have h := na; rw [e, List.length_nil] at h; omega)
      obtain ⟨gb, ob', rfl, hcb⟩ := yb.resolve_left (fun e => by have h := nb; rw [e, List.length_nil] at h; omega)
      obtain ⟨gc, oc', rfl, hcc⟩ := yc.resolve_left (fun e => by have h := nc; rw [e, List.length_nil] at h; omega)
      have dm := HMK.out k hlt
      have da := later_lt hB (World.block_lt_of_cell? _ _ (hca k (by omega))) (hca k (by omega))
      have db := later_lt hB (World.block_lt_of_cell? _ _ (hcb k (by omega))) (hcb k (by omega))
      have dc := later_lt hB (World.block_lt_of_cell? _ _ (hcc k (by omega))) (hcc k (by omega))
      obtain ⟨va, hva⟩ : ∃ v, la.getD k 0 = v := ⟨_, rfl⟩
      obtain ⟨vb, hvb⟩ : ∃ v, lb.getD k 0 = v := ⟨_, rfl⟩
      obtain ⟨vc, hvc⟩ : ∃ v, lc.getD k 0 = v := ⟨_, rfl⟩
      obtain ⟨t1, ht1⟩ : ∃ v, va ^^^ vb = v := ⟨_, rfl⟩
      obtain ⟨t2, ht2⟩ : ∃ v, t1 ^^^ vc = v := ⟨_, rfl⟩
      rw [hva, hvb, hvc, ht1, ht2] at dm
      rw [hva] at da
      rw [hvb] at db
      rw [hvc] at dc
      have hx1 : bits .xor .u8 (va.toNat : Int) (vb.toNat : Int) = (t1.toNat : Int) := by rw [u8_xor, ht1]
      have hx2 : bits .xor .u8 (t1.toNat : Int) (vc.toNat : Int) = (t2.toNat : Int) := by rw [u8_xor, ht2]
      have DM := Lib.hid dm
      clear ya yb yc hca hcb hcc dm hva hvb hvc ht1 ht2
      unfold encB at da db dc
      go_wp2_with fail
      refine wp_tail 17 (fun W => W.cell? ⟨ga, oa' + k, none⟩ = some (.int .u8 (va.toNat : Int)) ∧ W.cell? ⟨gb, ob' + k, none⟩ = some (.int .u8 (vb.toNat : Int)) ∧ W.cell? ⟨gc, oc' + k, none⟩ = some (.int .u8 (vc.toNat : Int)) ∧ OwnsB w.heap.size W (some ⟨w.heap.size, 0, none⟩) m.length (fillL m k) ∧ Below w.heap.size w W) (by kernel_rfl) (by kernel_rfl) ⟨da, db, dc, HO.out.turn ((Turns.refl (fun _ => False) wr).drew) (fun _ _ h => h), hB.drew⟩ ?_
      clear HO hB da db dc
      rintro W ⟨da, db, dc, ho, hB⟩
      have hce := ho.cell k (by rw [fillL_length]; exact hlt)
      have hfe := ho.free k
      have HO := Lib.hid ho
      clear ho
      have hka : k < la.length := by omega
      have hkb2 : k < lb.length := by omega
      have hkc : k < lc.length := by omega
      have hwk : IntKind.i64.wrap (k : Int) = (k : Int) := by simp [IntKind.wrap, IntKind.bits, IntKind.signed]; omega
      simp only [List.take_succ_cons, List.take_zero, List.drop_succ_cons, List.drop_zero]
      repeat still_step
      refine wpStill_nil ?_
      go_wp2_with fail
      exact ⟨⟨k + 1, by omega, by go_num, by rw [← fillL_succ m k hlt, DM.out]; exact HO.out.set k t2, hB.setCell (p := ⟨w.heap.size, k, none⟩) (Nat.le_refl _) _⟩, by simp [intOf]; omega⟩
    · obtain rfl : k = m.length := by omega
      rw [fillL_all] at HO
      have ym := HO.out.bts
      clear HO HMK
      replace ya := ya.later hB
      replace yb := yb.later hB
      replace yc := yc.later hB
      have FT := Lib.hid (show Crc.sum m = Crc.sum m from rfl)
      go_wp2_with fail
      refine wp_region_sched (fun W => Bts W xa la ∧ Bts W xb lb ∧ Bts W xc lc ∧ Bts W (some ⟨w.heap.size, 0, none⟩) m ∧ Below w.heap.size w W) (.one [0, 2, 3, 4, 6, 7, 8, 11, 12, 13] 1 (.one [] 5 (.one [] 9 (.one [10] 14 (.done [15, 16]))))) (by kernel_rfl) (by kernel_rfl) (fun _ _ _ _ _ h => h) ⟨ya, yb, yc, ym, hB.drew⟩ ?_
      clear hB ya yb yc ym
      rintro W ⟨ya, yb, yc, ym, hB⟩
      rw [wpSched]
      simp only [pick, List.map_cons, List.map_nil, Array.getD_eq_getD_getElem?, List.getElem?_toArray, List.getElem?_cons_succ, List.getElem?_cons_zero, Option.getD_some]
      repeat (first | go_big_quiet_step (fail) | quiet_step (fail))
      refine wpQuiet_nil ?_
      refine heavy_want (by rfl) (fun K' hK' => ?_)
      go_simp
      refine (sum_any (some ⟨w.heap.size, 0, none⟩) m m.length _ ym (by omega)).mono ?_
      rintro e V1 ⟨rfl, hb⟩
      refine hK' _ _ hb ?_
      clear hK' K'
      rw [HSUM.out]
      have hq := thru (Below.refl _ W) hb
      clear hb
      replace hB := thru hB hq
      replace ya := ya.later hq
      replace yb := yb.later hq
      replace yc := yc.later hq
      replace ym := ym.later hq
      clear hq 
      try simp only [Act.put, List.setIfInBounds_toArray, List.set_cons_zero, List.set_cons_succ]
      rw [wpSched]
      simp only [pick, List.map_nil, Array.getD_eq_getD_getElem?, List.getElem?_toArray, List.getElem?_cons_succ, List.getElem?_cons_zero, Option.getD_some]
      refine wpQuiet_nil ?_
      refine heavy_want (by rfl) (fun K' hK' => ?_)
      go_simp
      refine (sum_at xa (la.take m.length) m.length ca _ ta (ya.take _) (by omega)).mono ?_
      rintro e V2 ⟨rfl, hb⟩
      refine hK' _ _ hb ?_
      clear hK' K'
      rw [FA.out]
      have hq := thru (Below.refl _ V1) hb
      clear hb
      replace hB := thru hB hq
      replace ya := ya.later hq
      replace yb := yb.later hq
      replace yc := yc.later hq
      replace ym := ym.later hq
      clear hq 
      try simp only [Act.put, List.setIfInBounds_toArray, List.set_cons_zero, List.set_cons_succ]
      rw [wpSched]
      simp only [pick, List.map_nil, Array.getD_eq_getD_getElem?, List.getElem?_toArray, List.getElem?_cons_succ, List.getElem?_cons_zero, Option.getD_some]
      refine wpQuiet_nil ?_
      refine heavy_want (by rfl) (fun K' hK' => ?_)
      go_simp
      refine (sum_at xb (lb.take m.length) m.length cb _ tb (yb.take _) (by omega)).mono ?_
      rintro e V3 ⟨rfl, hb⟩
      refine hK' _ _ hb ?_
      clear hK' K'
      rw [FB.out]
      have hq := thru (Below.refl _ V2) hb
      clear hb
      replace hB := thru hB hq
      replace ya := ya.later hq
      replace yb := yb.later hq
      replace yc := yc.later hq
      replace ym := ym.later hq
      clear hq 
      try simp only [Act.put, List.setIfInBounds_toArray, List.set_cons_zero, List.set_cons_succ]
      rw [wpSched]
      simp only [pick, List.map_cons, List.map_nil, Array.getD_eq_getD_getElem?, List.getElem?_toArray, List.getElem?_cons_succ, List.getElem?_cons_zero, Option.getD_some]
      repeat (first | go_big_quiet_step (fail) | quiet_step (fail))
      refine wpQuiet_nil ?_
      refine heavy_want (by rfl) (fun K' hK' => ?_)
      go_simp
      refine (sum_at xc (lc.take m.length) m.length cc _ tc (yc.take _) (by omega)).mono ?_
      rintro e V4 ⟨rfl, hb⟩
      refine hK' _ _ hb ?_
      clear hK' K'
      rw [FC.out]
      have hq := thru (Below.refl _ V3) hb
      clear hb
      replace hB := thru hB hq
      replace ya := ya.later hq
      replace yb := yb.later hq
      replace yc := yc.later hq
      replace ym := ym.later hq
      clear hq 
      try simp only [Act.put, List.setIfInBounds_toArray, List.set_cons_zero, List.set_cons_succ]
      rw [wpSched]
      simp only [pick, List.map_cons, List.map_nil, Array.getD_eq_getD_getElem?, List.getElem?_toArray, List.getElem?_cons_succ, List.getElem?_cons_zero, Option.getD_some]
      repeat (first | go_big_quiet_step (fail) | quiet_step (fail))
      refine wpQuiet_nil ?_
      by_cases c1 : at_ < 0
      · have d1 : decide (at_ < 0) = true := decide_eq_true c1
        go_wp2_with fail
        refine (awake_any _).mono ?_
        rintro e w9 ⟨rfl, hb⟩
        have hq := thru (Below.refl _ V4) hb
        replace hB := thru hB hq
        replace ya := ya.later hq
        replace yb := yb.later hq
        replace yc := yc.later hq
        replace ym := ym.later hq
        clear hb hq 
        go_wp2_with fail
        go_ret
        exact ⟨rfl, hB⟩
      · have d1 : decide (at_ < 0) = false := decide_eq_false c1
        by_cases c2 : 8 * (m.length : Int) ≤ at_
        · have d2 : decide (8 * (m.length : Int) ≤ at_) = true := decide_eq_true c2
          go_wp2_with fail
          refine (awake_any _).mono ?_
          rintro e w9 ⟨rfl, hb⟩
          have hq := thru (Below.refl _ V4) hb
          replace hB := thru hB hq
          replace ya := ya.later hq
          replace yb := yb.later hq
          replace yc := yc.later hq
          replace ym := ym.later hq
          clear hb hq 
          go_wp2_with fail
          go_ret
          exact ⟨rfl, hB⟩
        · have d2 : decide (8 * (m.length : Int) ≤ at_) = false := decide_eq_false c2
          obtain ⟨c, rfl⟩ : ∃ c : Nat, at_ = (c : Int) := ⟨at_.toNat, by omega⟩
          have hcc : c ≤ 100000 := by omega
          obtain ⟨fl, hfl⟩ : ∃ l, Crc.flipN (p ||| 1#32) c (la.take m.length) 32 = l := ⟨_, rfl⟩
          have nfl : fl.length = m.length := by rw [← hfl, Crc.flipN_length]; exact ta
          have nf1 : fl.length ≤ m.length := by omega
          have hne : (Crc.sum fl != sa) = true := by
            have := Crc.sum_flip (p ||| 1#32) c (la.take m.length) (by rw [ta]; omega) (by simp)
            rw [hfl, FA.out] at this
            simpa using this
          obtain ⟨sf, hsf⟩ : ∃ s, Crc.sum fl = s := ⟨_, rfl⟩
          rw [hsf] at hne
          have FL := Lib.hid hfl
          have FS := Lib.hid hsf
          have hta := Lib.hid ta
          have htc := Lib.hid ya
          clear hfl hsf nfl c1 c2 htc hta
          go_wp2_with fail
          refine wp_region_sched (fun W => Bts W xa la ∧ Bts W xb lb ∧ Bts W xc lc ∧ Bts W (some ⟨w.heap.size, 0, none⟩) m ∧ Below w.heap.size w W) (.one [0, 1, 2, 3, 4, 7, 8, 9] 5 (.one [] 6 (.one [] 10 (.one [11, 12] 13 (.done [14, 15]))))) (by kernel_rfl) (by kernel_rfl) (fun _ _ _ _ _ h => h) ⟨ya, yb, yc, ym, hB.drew⟩ ?_
          clear hB ya yb yc ym
          rintro Q ⟨ya, yb, yc, ym, hB⟩
          rw [wpSched]
          simp only [pick, List.map_cons, List.map_nil, Array.getD_eq_getD_getElem?, List.getElem?_toArray, List.getElem?_cons_succ, List.getElem?_cons_zero, Option.getD_some]
          repeat (first | go_big_quiet_step (fail) | quiet_step (fail))
          refine wpQuiet_nil ?_
          refine heavy_want (by rfl) (fun K' hK' => ?_)
          go_simp
          refine (flipped_at xa (la.take m.length) m.length ca c p _ ta (ya.take _) oa (by omega) hcc).mono ?_
          rintro e Q1 ⟨x1, c1, rfl, ho, hb⟩
          refine hK' _ _ hb ?_
          clear hK' K'
          rw [FL.out] at ho ⊢
          have yf := ho.bts
          clear ho
          have hq := thru (Below.refl _ Q) hb
          clear hb
          replace hB := thru hB hq
          replace ya := ya.later hq
          replace yb := yb.later hq
          replace yc := yc.later hq
          replace ym := ym.later hq
          clear hq 
          try simp only [Act.put, List.setIfInBounds_toArray, List.set_cons_zero, List.set_cons_succ]
          rw [wpSched]
          simp only [pick, List.map_nil, Array.getD_eq_getD_getElem?, List.getElem?_toArray, List.getElem?_cons_succ, List.getElem?_cons_zero, Option.getD_some]
          refine wpQuiet_nil ?_
          refine heavy_want (by rfl) (fun K' hK' => ?_)
          go_simp
          refine (sum_any x1 fl c1 _ yf (by omega)).mono ?_
          rintro e Q2 ⟨rfl, hb⟩
          refine hK' _ _ hb ?_
          clear hK' K'
          rw [FS.out]
          have hq := thru (Below.refl _ Q1) hb
          clear hb
          replace hB := thru hB hq
          replace ya := ya.later hq
          replace yb := yb.later hq
          replace yc := yc.later hq
          replace ym := ym.later hq
          replace yf := yf.later hq
          clear hq 
          try simp only [Act.put, List.setIfInBounds_toArray, List.set_cons_zero, List.set_cons_succ]
          rw [wpSched]
          simp only [pick, List.map_nil, Array.getD_eq_getD_getElem?, List.getElem?_toArray, List.getElem?_cons_succ, List.getElem?_cons_zero, Option.getD_some]
          refine wpQuiet_nil ?_
          refine heavy_want (by rfl) (fun K' hK' => ?_)
          go_simp
          refine (sum_at xa (la.take m.length) m.length ca _ ta (ya.take _) (by omega)).mono ?_
          rintro e Q3 ⟨rfl, hb⟩
          refine hK' _ _ hb ?_
          clear hK' K'
          rw [FA.out]
          have hq := thru (Below.refl _ Q2) hb
          clear hb
          replace hB := thru hB hq
          replace ya := ya.later hq
          replace yb := yb.later hq
          replace yc := yc.later hq
          replace ym := ym.later hq
          replace yf := yf.later hq
          clear hq 
          try simp only [Act.put, List.setIfInBounds_toArray, List.set_cons_zero, List.set_cons_succ]
          rw [wpSched]
          simp only [pick, List.map_cons, List.map_nil, Array.getD_eq_getD_getElem?, List.getElem?_toArray, List.getElem?_cons_succ, List.getElem?_cons_zero, Option.getD_some]
          repeat (first | go_big_quiet_step (fail) | quiet_step (fail))
          refine wpQuiet_nil ?_
          refine heavy_want (by rfl) (fun K' hK' => ?_)
          go_simp
          refine (awake_any _).mono ?_
          rintro e Q4 ⟨rfl, hb⟩
          refine hK' _ _ hb ?_
          clear hK' K'
          have hq := thru (Below.refl _ Q3) hb
          clear hb
          replace hB := thru hB hq
          replace ya := ya.later hq
          replace yb := yb.later hq
          replace yc := yc.later hq
          replace ym := ym.later hq
          replace yf := yf.later hq
          clear hq 
          try simp only [Act.put, List.setIfInBounds_toArray, List.set_cons_zero, List.set_cons_succ]
          rw [wpSched]
          simp only [pick, List.map_cons, List.map_nil, Array.getD_eq_getD_getElem?, List.getElem?_toArray, List.getElem?_cons_succ, List.getElem?_cons_zero, Option.getD_some]
          repeat (first | go_big_quiet_step (fail) | quiet_step (fail))
          refine wpQuiet_nil ?_
          go_wp2_with fail
          go_ret
          exact ⟨rfl, hB⟩

end Go.Proofs.Ytcdmmhbmpkdagaa
