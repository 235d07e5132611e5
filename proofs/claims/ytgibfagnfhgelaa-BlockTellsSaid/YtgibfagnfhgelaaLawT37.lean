/- LAW BlockTells. -/
import Derived.Test.YtgibfagnfhgelaaTelA
import Derived.Test.YtgibfagnfhgelaaBlkN
import Derived.Test.YtgibfagnfhgelaaBlkO
import Derived.Test.YtgibfagnfhgelaaBlkQ
import Derived.Test.YtgibfagnfhgelaaBlkI
import Derived.Test.YtgibfagnfhgelaaBlkG
import Derived.Test.YtgibfagnfhgelaaQuietC
import Derived.Test.YtgibfagnfhgelaaRegionB
namespace Go.Proofs.Ytgibfagnfhgelaa
open Go.RowKit

def TlRel2 (os : List OpV) (w2 : World) (u14 u71 : Value) (wr : World) : Prop :=
  ∃ (j : Nat) (xl : Option Addr) (cl : Nat), j ≤ os.length ∧ u71 = .int .i64 (j : Int) ∧ u14 = .slice xl j cl ∧ OwnsP w2.heap.size wr xl cl (os.take j) ∧ Below w2.heap.size w2 wr
def TlRel1 (rs : List Rw) (w1 : World) (b13 : Nat) (u56 : Value) (wr : World) : Prop :=
  ∃ (j : Nat) (xj : Option Addr) (cj : Nat) (rw : List Rw), j ≤ rs.length ∧ u56 = .int .i64 (j : Int) ∧ OwnsS (b13 + 1) wr xj cj rw ∧ rw.map (·.l) = (rs.map (·.l)).take j ∧ wr.cell? ⟨b13, 0, none⟩ = some (.slice xj rw.length cj) ∧ wr.frozen? ⟨b13, 0, none⟩ = false ∧ Below b13 w1 wr ∧ b13 + 1 ≤ wr.heap.size

set_option maxRecDepth 20000 in
set_option maxHeartbeats 40000000 in
theorem tells_law (x : Option Addr) (rs : List Rw) (c : Nat) (i : Int) (xd : Option Addr) (d : List UInt8) (cd : Nat) (y : Option Addr) (os : List OpV) (cy : Nat) (n k : Int) (w : World) (hs : Rws w x rs) (hrn : rs.length ≤ 9223372036854775807) (hi : -9223372036854775808 ≤ i ∧ i ≤ 9223372036854775807) (hdb : Bts w xd d) (hdn : xd = none → cd = 0) (hdl : d.length ≤ 9223372036854775807) (ho : Ops w y os) (hyn : y = none → cy = 0) (hcy : os.length ≤ cy ∧ cy ≤ 9223372036854775807) :
    Calls Try.prog 3 #[.agg #[.slice x rs.length c], .int .i64 i, .slice xd d.length cd, .slice y os.length cy, .int .i64 n, .int .i64 k] w (YesOf w) := by
  have hB := Below.refl w.heap.size w
  by_cases hf : fewB (rs.map (·.l)) os = false
  · have HF : Hid (fewB (rs.map (·.l)) os = false) := hf
    clear hf
    go_enter Try.func3, Try.ntmps3
    go_wp2_with fail
    refine (few_any x rs c y os cy _ (hs.later (al hB _)) (ho.later (al hB _)) hrn (by omega)).mono ?_
    rintro e w1 ⟨rfl, hb⟩
    rw [HF.out]
    have g0 := later (a := ⟨w.heap.size, 0, none⟩) (v := .slice x rs.length c) hb (by go_simp)
    have hB1 := thru (al hB _) hb
    clear hb
    go_wp2_with fail
    refine (awake_any _).mono ?_
    rintro e w' ⟨rfl, hb⟩
    go_wp2_with fail
    go_ret
    exact ⟨rfl, thru hB1 hb⟩
  · have hf1 : fewB (rs.map (·.l)) os = true := by simpa using hf
    have HF : Hid (fewB (rs.map (·.l)) os = true) := hf1
    obtain ⟨hl1, -, hr70, ho20⟩ := (fewB_iff _ _).1 hf1
    rw [List.length_map] at hr70
    clear hf hf1
    by_cases hd : 100 < d.length
    · have d100 : decide ((100 : Int) < (d.length : Int)) = true := decide_eq_true (by omega)
      clear hd
      go_enter Try.func3, Try.ntmps3
      go_wp2_with fail
      refine (few_any x rs c y os cy _ (hs.later (al hB _)) (ho.later (al hB _)) hrn (by omega)).mono ?_
      rintro e w1 ⟨rfl, hb⟩
      rw [HF.out]
      have g0 := later (a := ⟨w.heap.size, 0, none⟩) (v := .slice x rs.length c) hb (by go_simp)
      have hB1 := thru (al hB _) hb
      clear hb
      go_wp2_with fail
      refine (awake_any _).mono ?_
      rintro e w' ⟨rfl, hb⟩
      go_wp2_with fail
      go_ret
      exact ⟨rfl, thru hB1 hb⟩
    · have d100 : decide ((100 : Int) < (d.length : Int)) = false := decide_eq_false (by omega)
      go_enter Try.func3, Try.ntmps3
      go_wp2_with fail
      refine (few_any x rs c y os cy _ (hs.later (al hB _)) (ho.later (al hB _)) hrn (by omega)).mono ?_
      rintro e w1 ⟨rfl, hb⟩
      rw [HF.out]
      have g0 := later (a := ⟨w.heap.size, 0, none⟩) (v := .slice x rs.length c) hb (by go_simp)
      have hB1 := thru (al hB _) hb
      clear hb
      have hz0 : w.heap.size < w1.heap.size := World.block_lt_of_cell? _ _ g0
      go_wp2_with fail
      obtain ⟨b13, hb13⟩ : ∃ b, w1.heap.size = b := ⟨_, rfl⟩
      rw [hb13]
      go_loopw [16, 56] (fun _ u56 wr => TlRel1 rs w1 b13 u56 wr) (fun _ u56 _ => rs.length - (intOf u56).toNat)
      case atStart => exact ⟨0, none, 0, [], by omega, rfl, OwnsS.nil _ _, rfl, by rw [← hb13]; exact cell_new w1 _ _ _ 0, by rw [← hb13]; exact frozen_new w1 _ _ 0, by rw [← hb13]; exact al (Below.refl _ w1) _, by simp; omega⟩
      case round =>
        obtain ⟨j, xj, cj, rw, hj, rfl, ho1, hm, c19, f19, hB, hz13⟩ := hrel
        have hlen : rw.length = j := by have := congrArg List.length hm; simp at this; omega
        by_cases hlt : j < rs.length
        · have d1 : decide ((j : Int) < (rs.length : Int)) = true := by simp; omega
          have hBw : Below w.heap.size w wr := hB1.trans (hB.mono (by omega))
          obtain ⟨b0, o0, rfl, hcj, hrj⟩ := (hs.later hBw).at j hlt
          have hll := hl1 _ (List.mem_map_of_mem (getD_mem rs j rw0 hlt))
          have htk : (rs.map (·.l)).take (j + 1) = (rs.map (·.l)).take j ++ [(rs.getD j rw0).l] := by
            rw [List.take_succ_eq_append_getElem (by simpa using hlt), List.getD_eq_getElem?_getD, List.getElem?_eq_getElem hlt]; simp
          obtain ⟨rj, hrjv⟩ : ∃ r, rs.getD j rw0 = r := ⟨_, rfl⟩
          rw [hrjv] at hcj hrj hll htk
          replace hcj : wr.cell? ⟨b0, o0 + j, none⟩ = some (.slice rj.x rj.l.length rj.c) := hcj
          have HLOW : Hid ((∀ b, RowOf xj b → b < wr.heap.size) ∧ ∀ r, r ∈ rw → ∀ b, RowOf r.x b → b < wr.heap.size) := ⟨fun b hb => (ho1.row.low b hb).2, fun r hr b hb => ((ho1.each r hr).low b hb).2⟩
          have HT := Lib.hid htk
          have hrl : rw.length ≤ 1000 := by omega
          have HM := Lib.hid hm
          have HO1 := Lib.hid ho1
          have jB : (j : Int) < (rs.length : Int) := by omega
          clear hlen htk hm hrjv ho1 hBw
          go_wp2_with fail
          have ho := HO1.out
          clear HO1
          refine wp_region_schedB (B := b13) (fun X => X.cell? ⟨b13, 0, none⟩ = some (.slice xj rw.length cj) ∧ X.frozen? ⟨b13, 0, none⟩ = false ∧ OwnsS (b13 + 1) X xj cj rw ∧ Below wr.heap.size wr X ∧ b13 + 1 ≤ X.heap.size ∧ RwOk X rj) (.two [0, 3] 1 (.one [] 2 (.one [] 4 (.one [] 5 (.one [] 6 (.one [7] 8 (.done [])))))) 2 (.two [] 1 (.one [] 4 (.one [] 5 (.one [] 6 (.one [7] 8 (.done []))))) 4 (.two [] 1 (.one [] 5 (.one [] 6 (.one [7] 8 (.done [])))) 5 (.one [] 1 (.one [] 6 (.one [7] 8 (.done []))))))) (by kernel_rfl) (by kernel_rfl) (fun _ _ _ _ _ h => h) ⟨c19, f19, ho.turn ((Turns.refl (fun _ => False) wr).drew) (fun _ _ h => h) (fun _ _ _ _ h => h), (Below.refl _ wr).drew, hz13, hrj.later (Below.refl _ wr).drew⟩ ?_
          clear c19 f19 ho hrj
          rintro X ⟨c19, f19, ho, ht, hzX, hrj⟩
          rw [wpSchedB]
          simp only [pick, List.map_cons, List.map_nil, Array.getD_eq_getD_getElem?, List.getElem?_toArray, List.getElem?_cons_succ, List.getElem?_cons_zero, Option.getD_some]
          repeat (first | go_big_quiet_step (fail) | quiet_step (fail))
          refine wpQuiet_nil ?_
          refine ⟨?_, ?_⟩
          · refine heavyB_want (by rfl) (fun K' hK' => ?_)
            go_simp
            refine hK' _ _ (Below.refl _ _) ?_
            clear hK' K'
            try simp only [Act.put, List.setIfInBounds_toArray, List.set_cons_zero, List.set_cons_succ]
            rw [wpSchedB]
            simp only [pick, List.map_nil, Array.getD_eq_getD_getElem?, List.getElem?_toArray, List.getElem?_cons_succ, List.getElem?_cons_zero, Option.getD_some]
            refine wpQuiet_nil ?_
            refine heavyB_want (by rfl) (fun K' hK' => ?_)
            go_simp
            refine hK' _ _ ((Below.refl _ _).alloc (by omega) _) ?_
            clear hK' K'
            obtain ⟨Y2, hY2⟩ : ∃ Y, X.alloc (.cells #[] 5) = Y := ⟨_, rfl⟩
            have hq : Below X.heap.size X Y2 := by rw [← hY2]; exact al (Below.refl _ _) _
            have hz0 : OwnsB wr.heap.size Y2 (some ⟨X.heap.size, 0, none⟩) 0 [] := by rw [← hY2]; exact OwnsB.made' _ _ _ ht.size rfl
            have hxt := ht.size
            replace c19 := later hq c19
            replace f19 := (Below.frozen hq (by simp <;> omega)).trans f19
            replace ho := ho.later hq
            replace ht := thru ht hq
            replace hrj := hrj.later hq
            replace hzX := Nat.le_trans hzX hq.size
            rw [hY2]
            clear hY2 hq
            obtain ⟨bz, hbz⟩ : ∃ b, X.heap.size = b := ⟨_, rfl⟩
            rw [hbz] at hz0 hxt ⊢
            clear hbz
            have hxz := hxt
            clear hxt
            try simp only [Act.put, List.setIfInBounds_toArray, List.set_cons_zero, List.set_cons_succ]
            rw [wpSchedB]
            simp only [pick, List.map_nil, Array.getD_eq_getD_getElem?, List.getElem?_toArray, List.getElem?_cons_succ, List.getElem?_cons_zero, Option.getD_some]
            refine wpQuiet_nil ?_
            refine heavyB_want (by rfl) (fun K' hK' => ?_)
            refine wp_app _ _ rfl (B := wr.heap.size) (l := []) hz0 rfl (y := rj.x) (m := rj.l) (c := rj.c) rfl hrj.1 hrj.2.1 (by simp; omega) (List.nil_append _) ht.size (fun xu cu Y3 h1 h2 h3 => hK' _ _ (h2.mono (by omega)) ?_)
            clear hK' K'
            have ho2 := ho.turn h3 (fun b hb e => by have h5 := HLOW.out.1 b hb; have h6 : bz = b := Option.some.inj e; omega) (fun r hr b hb e => by have h5 := HLOW.out.2 r hr b hb; have h6 : bz = b := Option.some.inj e; omega)
            clear ho
            have ho := ho2
            clear ho2
            replace c19 := later_lt h2 (a := ⟨b13, 0, none⟩) (by simp; omega) c19
            replace f19 := (h2.frozen (p := ⟨b13, 0, none⟩) (by simp; omega)).trans f19
            have hsz := h2.size
            replace ht := ht.trans h2
            replace hzX : b13 + 1 ≤ Y3.heap.size := by omega
            have hap : ∀ r, r ∈ rw → Apart r ⟨xu, cu, rj.l⟩ := fun r hr b h5 h6 => by have h7 := HLOW.out.2 r hr b h5; have h8 := (h1.low b h6).1; omega
            have hu : OwnsB (b13 + 1) Y3 xu cu rj.l := h1.weaken (by omega)
            clear hz0 h1 h2 h3 hsz hrj
            try simp only [Act.put, List.setIfInBounds_toArray, List.set_cons_zero, List.set_cons_succ]
            rw [wpSchedB]
            simp only [pick, List.map_nil, Array.getD_eq_getD_getElem?, List.getElem?_toArray, List.getElem?_cons_succ, List.getElem?_cons_zero, Option.getD_some]
            refine wpQuiet_nil ?_
            refine heavyB_want (by rfl) (fun K' hK' => ?_)
            go_simp
            refine hK' _ _ ((Below.refl _ _).alloc (by omega) _) ?_
            clear hK' K'
            obtain ⟨Y4, hY4⟩ : ∃ Y, Y3.alloc (.cells #[.slice xu rj.l.length cu] 25) = Y := ⟨_, rfl⟩
            have hq : Below Y3.heap.size Y3 Y4 := by rw [← hY4]; exact al (Below.refl _ _) _
            have ny : Y4.cell? ⟨Y3.heap.size, 0, none⟩ = some (.slice xu rj.l.length cu) := by rw [← hY4]; exact cell_new Y3 _ _ _ 0
            have hxt := ht.size
            replace c19 := later hq c19
            replace f19 := (Below.frozen hq (by simp <;> omega)).trans f19
            replace ho := ho.later hq
            replace ht := thru ht hq
            replace hu := hu.later hq
            replace hzX := Nat.le_trans hzX hq.size
            rw [hY4]
            clear hY4 hq
            obtain ⟨by_, hby⟩ : ∃ b, Y3.heap.size = b := ⟨_, rfl⟩
            rw [hby] at ny hxt ⊢
            clear hby
            have hxy := hxt
            clear hxt
            try simp only [Act.put, List.setIfInBounds_toArray, List.set_cons_zero, List.set_cons_succ]
            rw [wpSchedB]
            simp only [pick, List.map_nil, Array.getD_eq_getD_getElem?, List.getElem?_toArray, List.getElem?_cons_succ, List.getElem?_cons_zero, Option.getD_some]
            refine wpQuiet_nil ?_
            refine heavyB_want (by rfl) (fun K' hK' => ?_)
            refine wp_appR _ _ rfl (B := b13 + 1) (rs := rw) (cap := cj) (xa := xj) ho.row rfl (ad := ⟨by_, 0, none⟩) (u := ⟨xu, cu, rj.l⟩) rfl ny (by omega) (by omega) (fun x' c' Y5 h1 h2 h3 => hK' _ _ (h2.mono (by omega)) ?_)
            clear hK' K'
            replace c19 := later_lt h2 (a := ⟨b13, 0, none⟩) (by simp) c19
            replace f19 := (h2.frozen (p := ⟨b13, 0, none⟩) (by simp)).trans f19
            have ht3 : Below (b13 + 1) wr Y5 := (ht.mono (by omega)).trans h2
            have ho3 := ho.app h1 h3 hu hap
            have hz3 : b13 + 1 ≤ Y5.heap.size := by have := h2.size; omega
            clear ho hu h2 h3 ny ht h1 hzX
            try simp only [Act.put, List.setIfInBounds_toArray, List.set_cons_zero, List.set_cons_succ]
            rw [wpSchedB]
            simp only [pick, List.map_cons, List.map_nil, Array.getD_eq_getD_getElem?, List.getElem?_toArray, List.getElem?_cons_succ, List.getElem?_cons_zero, Option.getD_some]
            repeat (first | go_big_quiet_step (fail) | quiet_step (fail))
            refine wpQuiet_nil ?_
            refine heavyB_want (by rfl) (fun K' hK' => ?_)
            go_simp
            refine hK' _ _ ((Below.refl _ _).setCell (p := ⟨b13, 0, none⟩) (Nat.le_refl _) _) ?_
            clear hK' K'
            try simp only [Act.put, List.setIfInBounds_toArray, List.set_cons_zero, List.set_cons_succ]
            rw [wpSchedB]
            simp only [List.map_nil]
            refine wpQuiet_nil ?_
            have hB3 : Below b13 w1 Y5 := hB.trans (ht3.mono (by omega))
            clear ht3
            go_wp2_with fail
            exact ⟨⟨j + 1, x', c', rw ++ [⟨xu, cu, rj.l⟩], by omega, by go_num, ho3.turnB ((Turns.refl (fun b => b = b13) Y5).setCell (p := ⟨b13, 0, none⟩) (fun _ => rfl) _) (fun b hb _ e => by have e' : b = b13 := e; omega), by rw [HT.out, List.map_append, HM.out]; rfl, by rw [World.cell?_setCell_same' _ _ _ (by rw [c19]; rfl)]; simp, by rw [World.frozen?_setCell]; exact f19, hB3.setCell (p := ⟨b13, 0, none⟩) (Nat.le_refl _) _, by simp; omega⟩, by simp [intOf]; omega⟩
          · refine heavyB_want (by rfl) (fun K' hK' => ?_)
            go_simp
            refine hK' _ _ ((Below.refl _ _).alloc (by omega) _) ?_
            clear hK' K'
            obtain ⟨Y1, hY1⟩ : ∃ Y, X.alloc (.cells #[] 5) = Y := ⟨_, rfl⟩
            have hq : Below X.heap.size X Y1 := by rw [← hY1]; exact al (Below.refl _ _) _
            have hz0 : OwnsB wr.heap.size Y1 (some ⟨X.heap.size, 0, none⟩) 0 [] := by rw [← hY1]; exact OwnsB.made' _ _ _ ht.size rfl
            have hxt := ht.size
            replace c19 := later hq c19
            replace f19 := (Below.frozen hq (by simp <;> omega)).trans f19
            replace ho := ho.later hq
            replace ht := thru ht hq
            replace hrj := hrj.later hq
            replace hzX := Nat.le_trans hzX hq.size
            rw [hY1]
            clear hY1 hq
            obtain ⟨bz, hbz⟩ : ∃ b, X.heap.size = b := ⟨_, rfl⟩
            rw [hbz] at hz0 hxt ⊢
            clear hbz
            have hxz := hxt
            clear hxt
            try simp only [Act.put, List.setIfInBounds_toArray, List.set_cons_zero, List.set_cons_succ]
            rw [wpSchedB]
            simp only [pick, List.map_nil, Array.getD_eq_getD_getElem?, List.getElem?_toArray, List.getElem?_cons_succ, List.getElem?_cons_zero, Option.getD_some]
            refine wpQuiet_nil ?_
            refine ⟨?_, ?_⟩
            · refine heavyB_want (by rfl) (fun K' hK' => ?_)
              go_simp
              refine hK' _ _ (Below.refl _ _) ?_
              clear hK' K'
              try simp only [Act.put, List.setIfInBounds_toArray, List.set_cons_zero, List.set_cons_succ]
              rw [wpSchedB]
              simp only [pick, List.map_nil, Array.getD_eq_getD_getElem?, List.getElem?_toArray, List.getElem?_cons_succ, List.getElem?_cons_zero, Option.getD_some]
              refine wpQuiet_nil ?_
              refine heavyB_want (by rfl) (fun K' hK' => ?_)
              refine wp_app _ _ rfl (B := wr.heap.size) (l := []) hz0 rfl (y := rj.x) (m := rj.l) (c := rj.c) rfl hrj.1 hrj.2.1 (by simp; omega) (List.nil_append _) ht.size (fun xu cu Y3 h1 h2 h3 => hK' _ _ (h2.mono (by omega)) ?_)
              clear hK' K'
              have ho2 := ho.turn h3 (fun b hb e => by have h5 := HLOW.out.1 b hb; have h6 : bz = b := Option.some.inj e; omega) (fun r hr b hb e => by have h5 := HLOW.out.2 r hr b hb; have h6 : bz = b := Option.some.inj e; omega)
              clear ho
              have ho := ho2
              clear ho2
              replace c19 := later_lt h2 (a := ⟨b13, 0, none⟩) (by simp; omega) c19
              replace f19 := (h2.frozen (p := ⟨b13, 0, none⟩) (by simp; omega)).trans f19
              have hsz := h2.size
              replace ht := ht.trans h2
              replace hzX : b13 + 1 ≤ Y3.heap.size := by omega
              have hap : ∀ r, r ∈ rw → Apart r ⟨xu, cu, rj.l⟩ := fun r hr b h5 h6 => by have h7 := HLOW.out.2 r hr b h5; have h8 := (h1.low b h6).1; omega
              have hu : OwnsB (b13 + 1) Y3 xu cu rj.l := h1.weaken (by omega)
              clear hz0 h1 h2 h3 hsz hrj
              try simp only [Act.put, List.setIfInBounds_toArray, List.set_cons_zero, List.set_cons_succ]
              rw [wpSchedB]
              simp only [pick, List.map_nil, Array.getD_eq_getD_getElem?, List.getElem?_toArray, List.getElem?_cons_succ, List.getElem?_cons_zero, Option.getD_some]
              refine wpQuiet_nil ?_
              refine heavyB_want (by rfl) (fun K' hK' => ?_)
              go_simp
              refine hK' _ _ ((Below.refl _ _).alloc (by omega) _) ?_
              clear hK' K'
              obtain ⟨Y4, hY4⟩ : ∃ Y, Y3.alloc (.cells #[.slice xu rj.l.length cu] 25) = Y := ⟨_, rfl⟩
              have hq : Below Y3.heap.size Y3 Y4 := by rw [← hY4]; exact al (Below.refl _ _) _
              have ny : Y4.cell? ⟨Y3.heap.size, 0, none⟩ = some (.slice xu rj.l.length cu) := by rw [← hY4]; exact cell_new Y3 _ _ _ 0
              have hxt := ht.size
              replace c19 := later hq c19
              replace f19 := (Below.frozen hq (by simp <;> omega)).trans f19
              replace ho := ho.later hq
              replace ht := thru ht hq
              replace hu := hu.later hq
              replace hzX := Nat.le_trans hzX hq.size
              rw [hY4]
              clear hY4 hq
              obtain ⟨by_, hby⟩ : ∃ b, Y3.heap.size = b := ⟨_, rfl⟩
              rw [hby] at ny hxt ⊢
              clear hby
              have hxy := hxt
              clear hxt
              try simp only [Act.put, List.setIfInBounds_toArray, List.set_cons_zero, List.set_cons_succ]
              rw [wpSchedB]
              simp only [pick, List.map_nil, Array.getD_eq_getD_getElem?, List.getElem?_toArray, List.getElem?_cons_succ, List.getElem?_cons_zero, Option.getD_some]
              refine wpQuiet_nil ?_
              refine heavyB_want (by rfl) (fun K' hK' => ?_)
              refine wp_appR _ _ rfl (B := b13 + 1) (rs := rw) (cap := cj) (xa := xj) ho.row rfl (ad := ⟨by_, 0, none⟩) (u := ⟨xu, cu, rj.l⟩) rfl ny (by omega) (by omega) (fun x' c' Y5 h1 h2 h3 => hK' _ _ (h2.mono (by omega)) ?_)
              clear hK' K'
              replace c19 := later_lt h2 (a := ⟨b13, 0, none⟩) (by simp) c19
              replace f19 := (h2.frozen (p := ⟨b13, 0, none⟩) (by simp)).trans f19
              have ht3 : Below (b13 + 1) wr Y5 := (ht.mono (by omega)).trans h2
              have ho3 := ho.app h1 h3 hu hap
              have hz3 : b13 + 1 ≤ Y5.heap.size := by have := h2.size; omega
              clear ho hu h2 h3 ny ht h1 hzX
              try simp only [Act.put, List.setIfInBounds_toArray, List.set_cons_zero, List.set_cons_succ]
              rw [wpSchedB]
              simp only [pick, List.map_cons, List.map_nil, Array.getD_eq_getD_getElem?, List.getElem?_toArray, List.getElem?_cons_succ, List.getElem?_cons_zero, Option.getD_some]
              repeat (first | go_big_quiet_step (fail) | quiet_step (fail))
              refine wpQuiet_nil ?_
              refine heavyB_want (by rfl) (fun K' hK' => ?_)
              go_simp
              refine hK' _ _ ((Below.refl _ _).setCell (p := ⟨b13, 0, none⟩) (Nat.le_refl _) _) ?_
              clear hK' K'
              try simp only [Act.put, List.setIfInBounds_toArray, List.set_cons_zero, List.set_cons_succ]
              rw [wpSchedB]
              simp only [List.map_nil]
              refine wpQuiet_nil ?_
              have hB3 : Below b13 w1 Y5 := hB.trans (ht3.mono (by omega))
              clear ht3
              go_wp2_with fail
              exact ⟨⟨j + 1, x', c', rw ++ [⟨xu, cu, rj.l⟩], by omega, by go_num, ho3.turnB ((Turns.refl (fun b => b = b13) Y5).setCell (p := ⟨b13, 0, none⟩) (fun _ => rfl) _) (fun b hb _ e => by have e' : b = b13 := e; omega), by rw [HT.out, List.map_append, HM.out]; rfl, by rw [World.cell?_setCell_same' _ _ _ (by rw [c19]; rfl)]; simp, by rw [World.frozen?_setCell]; exact f19, hB3.setCell (p := ⟨b13, 0, none⟩) (Nat.le_refl _) _, by simp; omega⟩, by simp [intOf]; omega⟩
            · refine heavyB_want (by rfl) (fun K' hK' => ?_)
              refine wp_app _ _ rfl (B := wr.heap.size) (l := []) hz0 rfl (y := rj.x) (m := rj.l) (c := rj.c) rfl hrj.1 hrj.2.1 (by simp; omega) (List.nil_append _) ht.size (fun xu cu Y2 h1 h2 h3 => hK' _ _ (h2.mono (by omega)) ?_)
              clear hK' K'
              have ho2 := ho.turn h3 (fun b hb e => by have h5 := HLOW.out.1 b hb; have h6 : bz = b := Option.some.inj e; omega) (fun r hr b hb e => by have h5 := HLOW.out.2 r hr b hb; have h6 : bz = b := Option.some.inj e; omega)
              clear ho
              have ho := ho2
              clear ho2
              replace c19 := later_lt h2 (a := ⟨b13, 0, none⟩) (by simp; omega) c19
              replace f19 := (h2.frozen (p := ⟨b13, 0, none⟩) (by simp; omega)).trans f19
              have hsz := h2.size
              replace ht := ht.trans h2
              replace hzX : b13 + 1 ≤ Y2.heap.size := by omega
              have hap : ∀ r, r ∈ rw → Apart r ⟨xu, cu, rj.l⟩ := fun r hr b h5 h6 => by have h7 := HLOW.out.2 r hr b h5; have h8 := (h1.low b h6).1; omega
              have hu : OwnsB (b13 + 1) Y2 xu cu rj.l := h1.weaken (by omega)
              clear hz0 h1 h2 h3 hsz hrj
              try simp only [Act.put, List.setIfInBounds_toArray, List.set_cons_zero, List.set_cons_succ]
              rw [wpSchedB]
              simp only [pick, List.map_nil, Array.getD_eq_getD_getElem?, List.getElem?_toArray, List.getElem?_cons_succ, List.getElem?_cons_zero, Option.getD_some]
              refine wpQuiet_nil ?_
              refine ⟨?_, ?_⟩
              · refine heavyB_want (by rfl) (fun K' hK' => ?_)
                go_simp
                refine hK' _ _ (Below.refl _ _) ?_
                clear hK' K'
                try simp only [Act.put, List.setIfInBounds_toArray, List.set_cons_zero, List.set_cons_succ]
                rw [wpSchedB]
                simp only [pick, List.map_nil, Array.getD_eq_getD_getElem?, List.getElem?_toArray, List.getElem?_cons_succ, List.getElem?_cons_zero, Option.getD_some]
                refine wpQuiet_nil ?_
                refine heavyB_want (by rfl) (fun K' hK' => ?_)
                go_simp
                refine hK' _ _ ((Below.refl _ _).alloc (by omega) _) ?_
                clear hK' K'
                obtain ⟨Y4, hY4⟩ : ∃ Y, Y2.alloc (.cells #[.slice xu rj.l.length cu] 25) = Y := ⟨_, rfl⟩
                have hq : Below Y2.heap.size Y2 Y4 := by rw [← hY4]; exact al (Below.refl _ _) _
                have ny : Y4.cell? ⟨Y2.heap.size, 0, none⟩ = some (.slice xu rj.l.length cu) := by rw [← hY4]; exact cell_new Y2 _ _ _ 0
                have hxt := ht.size
                replace c19 := later hq c19
                replace f19 := (Below.frozen hq (by simp <;> omega)).trans f19
                replace ho := ho.later hq
                replace ht := thru ht hq
                replace hu := hu.later hq
                replace hzX := Nat.le_trans hzX hq.size
                rw [hY4]
                clear hY4 hq
                obtain ⟨by_, hby⟩ : ∃ b, Y2.heap.size = b := ⟨_, rfl⟩
                rw [hby] at ny hxt ⊢
                clear hby
                have hxy := hxt
                clear hxt
                try simp only [Act.put, List.setIfInBounds_toArray, List.set_cons_zero, List.set_cons_succ]
                rw [wpSchedB]
                simp only [pick, List.map_nil, Array.getD_eq_getD_getElem?, List.getElem?_toArray, List.getElem?_cons_succ, List.getElem?_cons_zero, Option.getD_some]
                refine wpQuiet_nil ?_
                refine heavyB_want (by rfl) (fun K' hK' => ?_)
                refine wp_appR _ _ rfl (B := b13 + 1) (rs := rw) (cap := cj) (xa := xj) ho.row rfl (ad := ⟨by_, 0, none⟩) (u := ⟨xu, cu, rj.l⟩) rfl ny (by omega) (by omega) (fun x' c' Y5 h1 h2 h3 => hK' _ _ (h2.mono (by omega)) ?_)
                clear hK' K'
                replace c19 := later_lt h2 (a := ⟨b13, 0, none⟩) (by simp) c19
                replace f19 := (h2.frozen (p := ⟨b13, 0, none⟩) (by simp)).trans f19
                have ht3 : Below (b13 + 1) wr Y5 := (ht.mono (by omega)).trans h2
                have ho3 := ho.app h1 h3 hu hap
                have hz3 : b13 + 1 ≤ Y5.heap.size := by have := h2.size; omega
                clear ho hu h2 h3 ny ht h1 hzX
                try simp only [Act.put, List.setIfInBounds_toArray, List.set_cons_zero, List.set_cons_succ]
                rw [wpSchedB]
                simp only [pick, List.map_cons, List.map_nil, Array.getD_eq_getD_getElem?, List.getElem?_toArray, List.getElem?_cons_succ, List.getElem?_cons_zero, Option.getD_some]
                repeat (first | go_big_quiet_step (fail) | quiet_step (fail))
                refine wpQuiet_nil ?_
                refine heavyB_want (by rfl) (fun K' hK' => ?_)
                go_simp
                refine hK' _ _ ((Below.refl _ _).setCell (p := ⟨b13, 0, none⟩) (Nat.le_refl _) _) ?_
                clear hK' K'
                try simp only [Act.put, List.setIfInBounds_toArray, List.set_cons_zero, List.set_cons_succ]
                rw [wpSchedB]
                simp only [List.map_nil]
                refine wpQuiet_nil ?_
                have hB3 : Below b13 w1 Y5 := hB.trans (ht3.mono (by omega))
                clear ht3
                go_wp2_with fail
                exact ⟨⟨j + 1, x', c', rw ++ [⟨xu, cu, rj.l⟩], by omega, by go_num, ho3.turnB ((Turns.refl (fun b => b = b13) Y5).setCell (p := ⟨b13, 0, none⟩) (fun _ => rfl) _) (fun b hb _ e => by have e' : b = b13 := e; omega), by rw [HT.out, List.map_append, HM.out]; rfl, by rw [World.cell?_setCell_same' _ _ _ (by rw [c19]; rfl)]; simp, by rw [World.frozen?_setCell]; exact f19, hB3.setCell (p := ⟨b13, 0, none⟩) (Nat.le_refl _) _, by simp; omega⟩, by simp [intOf]; omega⟩
              · refine heavyB_want (by rfl) (fun K' hK' => ?_)
                go_simp
                refine hK' _ _ ((Below.refl _ _).alloc (by omega) _) ?_
                clear hK' K'
                obtain ⟨Y3, hY3⟩ : ∃ Y, Y2.alloc (.cells #[.slice xu rj.l.length cu] 25) = Y := ⟨_, rfl⟩
                have hq : Below Y2.heap.size Y2 Y3 := by rw [← hY3]; exact al (Below.refl _ _) _
                have ny : Y3.cell? ⟨Y2.heap.size, 0, none⟩ = some (.slice xu rj.l.length cu) := by rw [← hY3]; exact cell_new Y2 _ _ _ 0
                have hxt := ht.size
                replace c19 := later hq c19
                replace f19 := (Below.frozen hq (by simp <;> omega)).trans f19
                replace ho := ho.later hq
                replace ht := thru ht hq
                replace hu := hu.later hq
                replace hzX := Nat.le_trans hzX hq.size
                rw [hY3]
                clear hY3 hq
                obtain ⟨by_, hby⟩ : ∃ b, Y2.heap.size = b := ⟨_, rfl⟩
                rw [hby] at ny hxt ⊢
                clear hby
                have hxy := hxt
                clear hxt
                try simp only [Act.put, List.setIfInBounds_toArray, List.set_cons_zero, List.set_cons_succ]
                rw [wpSchedB]
                simp only [pick, List.map_nil, Array.getD_eq_getD_getElem?, List.getElem?_toArray, List.getElem?_cons_succ, List.getElem?_cons_zero, Option.getD_some]
                refine wpQuiet_nil ?_
                refine heavyB_want (by rfl) (fun K' hK' => ?_)
                go_simp
                refine hK' _ _ (Below.refl _ _) ?_
                clear hK' K'
                try simp only [Act.put, List.setIfInBounds_toArray, List.set_cons_zero, List.set_cons_succ]
                rw [wpSchedB]
                simp only [pick, List.map_nil, Array.getD_eq_getD_getElem?, List.getElem?_toArray, List.getElem?_cons_succ, List.getElem?_cons_zero, Option.getD_some]
                refine wpQuiet_nil ?_
                refine heavyB_want (by rfl) (fun K' hK' => ?_)
                refine wp_appR _ _ rfl (B := b13 + 1) (rs := rw) (cap := cj) (xa := xj) ho.row rfl (ad := ⟨by_, 0, none⟩) (u := ⟨xu, cu, rj.l⟩) rfl ny (by omega) (by omega) (fun x' c' Y5 h1 h2 h3 => hK' _ _ (h2.mono (by omega)) ?_)
                clear hK' K'
                replace c19 := later_lt h2 (a := ⟨b13, 0, none⟩) (by simp) c19
                replace f19 := (h2.frozen (p := ⟨b13, 0, none⟩) (by simp)).trans f19
                have ht3 : Below (b13 + 1) wr Y5 := (ht.mono (by omega)).trans h2
                have ho3 := ho.app h1 h3 hu hap
                have hz3 : b13 + 1 ≤ Y5.heap.size := by have := h2.size; omega
                clear ho hu h2 h3 ny ht h1 hzX
                try simp only [Act.put, List.setIfInBounds_toArray, List.set_cons_zero, List.set_cons_succ]
                rw [wpSchedB]
                simp only [pick, List.map_cons, List.map_nil, Array.getD_eq_getD_getElem?, List.getElem?_toArray, List.getElem?_cons_succ, List.getElem?_cons_zero, Option.getD_some]
                repeat (first | go_big_quiet_step (fail) | quiet_step (fail))
                refine wpQuiet_nil ?_
                refine heavyB_want (by rfl) (fun K' hK' => ?_)
                go_simp
                refine hK' _ _ ((Below.refl _ _).setCell (p := ⟨b13, 0, none⟩) (Nat.le_refl _) _) ?_
                clear hK' K'
                try simp only [Act.put, List.setIfInBounds_toArray, List.set_cons_zero, List.set_cons_succ]
                rw [wpSchedB]
                simp only [List.map_nil]
                refine wpQuiet_nil ?_
                have hB3 : Below b13 w1 Y5 := hB.trans (ht3.mono (by omega))
                clear ht3
                go_wp2_with fail
                exact ⟨⟨j + 1, x', c', rw ++ [⟨xu, cu, rj.l⟩], by omega, by go_num, ho3.turnB ((Turns.refl (fun b => b = b13) Y5).setCell (p := ⟨b13, 0, none⟩) (fun _ => rfl) _) (fun b hb _ e => by have e' : b = b13 := e; omega), by rw [HT.out, List.map_append, HM.out]; rfl, by rw [World.cell?_setCell_same' _ _ _ (by rw [c19]; rfl)]; simp, by rw [World.frozen?_setCell]; exact f19, hB3.setCell (p := ⟨b13, 0, none⟩) (Nat.le_refl _) _, by simp; omega⟩, by simp [intOf]; omega⟩
        · obtain rfl : j = rs.length := by omega
          have hm2 : rw.map (·.l) = rs.map (·.l) := by rw [hm, List.take_of_length_le (by simp)]
          have HLEN := Lib.hid hlen
          clear hm hlt hlen
          have hBw : Below w.heap.size w wr := hB1.trans (hB.mono (by omega))
          have hwas := ho1.rws
          have g6 := later_lt hB (by rw [← hb13]; exact hz0) g0
          obtain ⟨w2, hw2⟩ : ∃ v : World, wr = v := ⟨_, rfl⟩
          rw [hw2] at hBw hwas g6 c19 ⊢
          have HWM := Lib.hid hm2
          have hz13 : b13 < w2.heap.size := World.block_lt_of_cell? _ _ c19
          clear hw2 ho1 f19 hB hm2 hz0 g0
          go_wp2_with fail
          go_loopw [14, 18, 71] (fun u14 _ u71 wr => TlRel2 os w2 u14 u71 wr) (fun _ _ u71 _ => os.length - (intOf u71).toNat)
          case atStart => exact ⟨0, none, 0, by omega, rfl, rfl, OwnsP.nil _ _, Below.refl _ _⟩
          case round =>
            obtain ⟨j, xl, cl, hj, rfl, rfl, hown, hB⟩ := hrel
            have HO := Lib.hid hown
            clear hown
            by_cases hlt : j < os.length
            · have d1 : decide ((j : Int) < (os.length : Int)) = true := by simp; omega
              have jB : (j : Int) < (os.length : Int) := by omega
              obtain ⟨b0, o0, rfl, k0, k1, k2, -⟩ := (ho.later (thru hBw hB)).at j hlt
              have htk : os.take (j + 1) = os.take j ++ [os.getD j op0] := by
                rw [List.take_succ_eq_append_getElem hlt, List.getD_eq_getElem?_getD, List.getElem?_eq_getElem hlt]; rfl
              have hlj : (os.take j).length = j := by rw [List.length_take]; omega
              obtain ⟨oj, hoj⟩ : ∃ r, os.getD j op0 = r := ⟨_, rfl⟩
              rw [hoj] at k0 k1 k2 htk
              have HTK := Lib.hid htk
              have HLJ := Lib.hid hlj
              clear htk hlj hoj
              go_wp2_with (at_builtin; (refine wpList_appP rfl (.tmp 75) (.tmp 83) rfl (B := w2.heap.size) (xa := xl) (cap := cl) (os := os.take j) (HO.out.later (al (al (Below.refl _ wr) _) _)) (by rw [HLJ.out]; rfl) (b := wr.heap.size + 1) (c := 1) (u := oj) rfl (by go_simp) (by go_simp) (by go_simp) (by have := HLJ.out; omega) (by have := hB.size; simp; omega) (m := j + 1) (by rw [HLJ.out]) ?_); intro x' c' w3 h1 h2; refine Hid.out ?_)
              unfold Hid
              have HN := Lib.hid h1
              have hB4 := (al (al hB _) _).trans h2
              clear h1 h2 hB HO k0 k1 k2
              go_wp2_with fail
              exact ⟨⟨j + 1, x', c', by omega, by go_num, rfl, by rw [HTK.out]; exact HN.out, hB4⟩, by simp [intOf]; omega⟩
            · obtain rfl : j = os.length := by omega
              rw [List.take_length] at HO
              have hBz := thru hBw hB
              have hlist : Ops wr xl os := HO.out.ops (fun q hq => (ho.2 q hq).later hBz)
              replace g6 := later hB g6
              replace c19 := later hB c19
              replace hwas := hwas.later hB
              obtain ⟨w3, hw3⟩ : ∃ v : World, wr = v := ⟨_, rfl⟩
              rw [hw3] at hBz hlist g6 c19 hwas ⊢
              clear hw3 HO hB hBw hz13 hlt
              have hrn2 : rs.length ≤ 1000 := by omega
              have hrw2 : rw.length ≤ 1000 := by have := HLEN.out; omega
              have hl0 : ∀ r, r ∈ rs → r.l.length ≤ 100000 := fun r hr => by have := hl1 r.l (List.mem_map_of_mem hr); omega
              have HRR : Hid (∀ W, Rws W xj rw → Calls Try.prog 14 #[.slice xj rw.length cj, .int .i64 i] W (ReadOf (rs.map (·.l)) i W)) := fun W h1 => by
                have := refRead_any xj rw cj i W h1 hrw2
                rwa [HWM.out] at this
              obtain ⟨v, hv⟩ : ∃ v, vldO (rs.map (·.l)) os = v := ⟨_, rfl⟩
              obtain ⟨p, hp⟩ : ∃ p, cutOk (rs.map (·.l)) os n k = p := ⟨_, rfl⟩
              obtain ⟨LR, hLR⟩ : ∃ l, (if v = true then runL (rs.map (·.l)) os else rs.map (·.l)) = l := ⟨_, rfl⟩
              obtain ⟨LC, hLC⟩ : ∃ l, (if p = true then cutL (rs.map (·.l)) os n.toNat k.toNat else rs.map (·.l)) = l := ⟨_, rfl⟩
              have HRUN : Hid (∀ W, Below w.heap.size w W → Calls Try.prog 15 #[.agg #[.slice x rs.length c], .slice y os.length cy] W (ErrOf LR (if v = true then 0 else 2) W)) := fun W hW => by
                have := run_any x rs c y os cy W (hs.later hW) hrn2 hl0 (ho.later hW) hyn (by omega) hcy
                rwa [hv, hLR] at this
              have HCUT : Hid (∀ W, Below w.heap.size w W → Calls Try.prog 16 #[.agg #[.slice x rs.length c], .slice y os.length cy, .int .i64 n, .int .i64 k] W (ErrOf LC (if p = true then 0 else 2) W)) := fun W hW => by
                have := cut_any x rs c y os cy n k W (hs.later hW) hrn2 hl0 (ho.later hW) hyn (by omega) hcy
                rwa [hp, hLC] at this
              have HV := Lib.hid hv
              have HP := Lib.hid hp
              have HLR := Lib.hid hLR
              have HLC := Lib.hid hLC
              clear hv hp hLR hLC hl1
              obtain ⟨cR, hcR⟩ : ∃ z : Int, (if v = true then 0 else 2) = z := ⟨_, rfl⟩
              obtain ⟨cC, hcC⟩ : ∃ z : Int, (if p = true then 0 else 2) = z := ⟨_, rfl⟩
              rw [hcR] at HRUN
              rw [hcC] at HCUT
              have HCR := Lib.hid hcR
              have HCC := Lib.hid hcC
              clear hcR hcC
              go_wp2_with fail
              refine (new_all i _).mono ?_
              rintro e w4 ⟨xe, ce, re, rfl, hel, hee, hre, hb⟩
              have HEL := Lib.hid hel
              have HEE := Lib.hid hee
              clear hel hee
              replace g6 := later hb g6
              replace c19 := later hb c19
              replace hwas := hwas.later hb
              replace hlist := hlist.later hb
              replace hBz := thru hBz hb
              clear hb
              have qb13 : b13 < w4.heap.size := World.block_lt_of_cell? _ _ c19
              have q0 : w.heap.size < w4.heap.size := World.block_lt_of_cell? _ _ g6
              go_wp2_with fail
              have v19 : (w4.alloc (.cells #[.slice xe re.length ce] 24)).cell? ⟨w4.heap.size, 0, none⟩ = some (.slice xe re.length ce) := cell_new w4 _ _ _ 0
              have hb := al (Below.refl _ w4) (.cells #[.slice xe re.length ce] 24)
              replace g6 := later hb g6
              replace c19 := later hb c19
              replace hwas := hwas.later hb
              replace hlist := hlist.later hb
              replace hre := hre.later hb
              replace hBz := thru hBz hb
              clear hb
              obtain ⟨b19, hb19⟩ : ∃ b, w4.heap.size = b := ⟨_, rfl⟩
              obtain ⟨V4, hV⟩ : ∃ V, w4.alloc (.cells #[.slice xe re.length ce] 24) = V := ⟨_, rfl⟩
              rw [hV] at g6 c19 hwas hlist hre v19 hBz ⊢
              rw [hb19] at v19 ⊢
              clear hV hb19 q0 qb13
              refine (encode_all xd d cd _ (hdb.later hBz) hdn).mono ?_
              rintro e w5 ⟨xb, cb, rfl, hbe, hb⟩
              replace g6 := later hb g6
              replace c19 := later hb c19
              replace hwas := hwas.later hb
              replace hlist := hlist.later hb
              replace hre := hre.later hb
              replace v19 := later hb v19
              replace hBz := thru hBz hb
              clear hb
              have HW5 := Lib.hid hwas
              have H65 := Lib.hid g6
              have H135 := Lib.hid c19
              have HB5 := Lib.hid hBz
              have B5h := Below.refl w5.heap.size w5
              go_wp2_with fail
              refine (read_any x rs c i _ (hs.later hBz) hrn2).mono ?_
              rintro e w6 ⟨xa, ca, rfl, hoa, hb⟩
              have s56 := hb.size
              replace g6 := later hb g6
              replace c19 := later hb c19
              replace hwas := hwas.later hb
              replace hlist := hlist.later hb
              replace hre := hre.later hb
              replace v19 := later hb v19
              replace hbe := hbe.later hb
              replace B5h := thru B5h hb
              replace hBz := thru hBz hb
              clear hb
              go_wp2_with fail
              refine (HRR.out _ hwas).mono ?_
              rintro e w7 ⟨xq, cq, rfl, hoq, hb⟩
              have hbq := hoq.bts
              have s67 := hb.size
              clear hoq
              replace g6 := later hb g6
              replace c19 := later hb c19
              replace hwas := hwas.later hb
              replace hlist := hlist.later hb
              replace hre := hre.later hb
              replace v19 := later hb v19
              replace hbe := hbe.later hb
              replace B5h := thru B5h hb
              replace hoa := hoa.later hb
              replace hBz := thru hBz hb
              clear hb
              have HXA : Hid (∀ b, RowOf xa b → b < w7.heap.size) := fun b hb => (hoa.low b hb).2
              go_wp2_with fail
              refine (HRUN.out _ hBz).mono ?_
              rintro e w8 ⟨xx, cx, rx, rfl, hox, hmx, hb⟩
              have HMX := Lib.hid hmx
              have s78 := hb.size
              clear hmx
              replace g6 := later hb g6
              replace c19 := later hb c19
              replace hwas := hwas.later hb
              replace hlist := hlist.later hb
              replace hre := hre.later hb
              replace v19 := later hb v19
              replace hbe := hbe.later hb
              replace B5h := thru B5h hb
              replace hoa := hoa.later hb
              replace hbq := hbq.later hb
              replace hBz := thru hBz hb
              clear hb
              have qb13 : b13 < w8.heap.size := World.block_lt_of_cell? _ _ c19
              have qb19 : b19 < w8.heap.size := World.block_lt_of_cell? _ _ v19
              have q0 : w.heap.size < w8.heap.size := World.block_lt_of_cell? _ _ g6
              go_wp2_with fail
              have v27 : (w8.alloc (.cells #[.slice xx rx.length cx] 24)).cell? ⟨w8.heap.size, 0, none⟩ = some (.slice xx rx.length cx) := cell_new w8 _ _ _ 0
              have hb := al (Below.refl _ w8) (.cells #[.slice xx rx.length cx] 24)
              replace g6 := later hb g6
              replace c19 := later hb c19
              replace hwas := hwas.later hb
              replace hlist := hlist.later hb
              replace hre := hre.later hb
              replace v19 := later hb v19
              replace hbe := hbe.later hb
              replace B5h := thru B5h hb
              replace hoa := hoa.later hb
              replace hbq := hbq.later hb
              replace hox := hox.later hb
              replace hBz := thru hBz hb
              clear hb
              obtain ⟨b27, hb27⟩ : ∃ b, w8.heap.size = b := ⟨_, rfl⟩
              obtain ⟨V8, hV⟩ : ∃ V, w8.alloc (.cells #[.slice xx rx.length cx] 24) = V := ⟨_, rfl⟩
              rw [hV] at g6 c19 hwas hlist hre v19 hbe B5h hoa hbq hox v27 hBz ⊢
              rw [hb27] at v27 ⊢
              have s8V : w8.heap.size ≤ V8.heap.size := by rw [← hV]; simp
              clear hV hb27 q0 qb13 qb19
              have HX8 : Hid ((∀ b, RowOf xx b → b < V8.heap.size) ∧ ∀ r, r ∈ rx → ∀ b, RowOf r.x b → b < V8.heap.size) := ⟨fun b hb => (hox.row.low b hb).2, fun r hr b hb => ((hox.each r hr).low b hb).2⟩
              have H57 : w5.heap.size ≤ w7.heap.size := by omega
              have H78 : w7.heap.size ≤ V8.heap.size := by omega
              clear s56 s67 s78 s8V
              refine (HCUT.out _ hBz).mono ?_
              rintro e w9 ⟨xy, cyy, ry, rfl, hoy, hmy, hb⟩
              have HMY := Lib.hid hmy
              have s89 := hb.size
              clear hmy
              replace g6 := later hb g6
              replace c19 := later hb c19
              replace hwas := hwas.later hb
              replace hlist := hlist.later hb
              replace hre := hre.later hb
              replace v19 := later hb v19
              replace hbe := hbe.later hb
              replace B5h := thru B5h hb
              replace hoa := hoa.later hb
              replace hbq := hbq.later hb
              replace hox := hox.later hb
              replace v27 := later hb v27
              replace hBz := thru hBz hb
              clear hb
              have qb13 : b13 < w9.heap.size := World.block_lt_of_cell? _ _ c19
              have qb19 : b19 < w9.heap.size := World.block_lt_of_cell? _ _ v19
              have qb27 : b27 < w9.heap.size := World.block_lt_of_cell? _ _ v27
              have q0 : w.heap.size < w9.heap.size := World.block_lt_of_cell? _ _ g6
              go_wp2_with fail
              have v29 : (w9.alloc (.cells #[.slice xy ry.length cyy] 24)).cell? ⟨w9.heap.size, 0, none⟩ = some (.slice xy ry.length cyy) := cell_new w9 _ _ _ 0
              have hb := al (Below.refl _ w9) (.cells #[.slice xy ry.length cyy] 24)
              replace g6 := later hb g6
              replace c19 := later hb c19
              replace hwas := hwas.later hb
              replace hlist := hlist.later hb
              replace hre := hre.later hb
              replace v19 := later hb v19
              replace hbe := hbe.later hb
              replace B5h := thru B5h hb
              replace hoa := hoa.later hb
              replace hbq := hbq.later hb
              replace hox := hox.later hb
              replace v27 := later hb v27
              replace hoy := hoy.later hb
              replace hBz := thru hBz hb
              clear hb
              obtain ⟨b29, hb29⟩ : ∃ b, w9.heap.size = b := ⟨_, rfl⟩
              obtain ⟨V9, hV⟩ : ∃ V, w9.alloc (.cells #[.slice xy ry.length cyy] 24) = V := ⟨_, rfl⟩
              rw [hV] at g6 c19 hwas hlist hre v19 hbe B5h hoa hbq hox v27 hoy v29 hBz ⊢
              rw [hb29] at v29 ⊢
              have z89 : V8.heap.size ≤ b29 := by omega
              clear hV hb29 q0 qb13 qb19 qb27
              clear s89
              obtain ⟨M, hM⟩ : ∃ l, rdM (rs.map (·.l)) i = l := ⟨_, rfl⟩
              obtain ⟨C, hC⟩ : ∃ l, rdC (rs.map (·.l)) i = l := ⟨_, rfl⟩
              rw [hM] at hoa hbq ⊢
              rw [hC]
              clear hM hC HRR
              obtain ⟨sv, hsv⟩ : ∃ b, vldS (rs.map (·.l)) = b := ⟨_, rfl⟩
              have HSV := Lib.hid hsv
              have HSW : Hid (vldS (rw.map (·.l)) = sv) := by show _ = _; rw [HWM.out]; exact hsv
              clear hsv
              refine wp_cutN (fun a' w' => Below V9.heap.size V9 w' ∧ ∃ u : Nat → Value, a' = { tmps := #[u 0, .int .i64 i, .slice xd d.length cd, .slice y os.length cy, .int .i64 n, .int .i64 k, .pointer (some ⟨w.heap.size, 0, none⟩), u 7, u 8, u 9, u 10, u 11, u 12, .pointer (some ⟨b13, 0, none⟩), .slice xl os.length cl, u 15, u 16, u 17, u 18, .pointer (some ⟨b19, 0, none⟩), u 20, .slice xb (outE d).length cb, .int .i64 (codeE d), .slice xa M.length ca, u 24, u 25, u 26, .pointer (some ⟨b27, 0, none⟩), .int .i64 cR, .pointer (some ⟨b29, 0, none⟩), .int .i64 cC, u 31, u 32, u 33, u 34, u 35, u 36, u 37, u 38, u 39, u 40, u 41, u 42, u 43, u 44, u 45, u 46, u 47, u 48, u 49, u 50, u 51, u 52, u 53, u 54, u 55, u 56, u 57, u 58, u 59, u 60, u 61, u 62, u 63, u 64, u 65, u 66, u 67, u 68, u 69, u 70, u 71, u 72, u 73, u 74, u 75, u 76, u 77, u 78, u 79, u 80, u 81, u 82, u 83, u 84, u 85, u 86, u 87, u 88, u 89, u 90, u 91, u 92, u 93, u 94, u 95, u 96, u 97, u 98, u 99, u 100, u 101, u 102, u 103, u 104, u 105, u 106, u 107, u 108, u 109, u 110, u 111, u 112, u 113, u 114, u 115, u 116, u 117, u 118, u 119, u 120, u 121, u 122, u 123, u 124, u 125, u 126, u 127, u 128, u 129, u 130, u 131, u 132, u 133, u 134, u 135, u 136, u 137, u 138, u 139, u 140, u 141, u 142, u 143, u 144, u 145, u 146, u 147, u 148, u 149, u 150, u 151, u 152, u 153, u 154, u 155, u 156, u 157, u 158, u 159, u 160, u 161, u 162, u 163, u 164, u 165, u 166, u 167, u 168, u 169, u 170, u 171, u 172, u 173, u 174, u 175, .bool false, u 177, u 178, u 179, u 180, u 181, u 182, u 183, u 184, u 185, u 186, u 187, u 188, u 189, u 190, u 191, u 192, u 193, u 194, u 195, u 196, u 197, u 198, u 199, u 200, u 201, u 202, u 203, u 204, u 205, u 206, u 207, u 208, u 209, u 210, u 211, u 212, u 213, u 214, u 215, u 216, u 217, u 218, u 219, u 220, u 221, u 222, u 223, u 224, u 225, u 226, u 227, u 228, u 229, u 230, u 231, u 232, u 233, u 234, u 235, u 236, u 237, u 238, u 239, u 240, u 241, u 242, u 243, u 244, u 245, u 246, u 247, u 248, u 249, u 250, u 251, u 252, u 253, u 254, u 255, u 256, u 257, u 258, u 259, u 260, u 261, u 262, u 263, u 264, u 265, u 266, u 267, u 268, u 269, u 270, u 271, u 272, u 273, u 274, u 275, u 276, u 277, u 278, u 279, u 280, u 281, u 282, u 283, u 284, u 285, u 286, u 287, u 288, u 289, u 290, u 291, u 292, u 293, u 294, u 295, u 296, u 297, u 298, u 299, u 300, u 301, u 302, u 303, u 304, u 305, u 306, u 307, u 308, u 309, u 310, u 311, u 312, u 313, u 314, u 315, u 316, u 317, u 318, u 319, u 320, u 321, u 322, u 323, u 324, u 325, u 326, u 327, u 328, u 329, u 330, u 331, u 332, u 333, u 334, u 335, u 336, u 337, u 338, u 339, u 340, u 341, u 342, u 343, u 344, u 345, u 346, u 347, u 348, u 349, u 350, u 351, u 352, u 353, u 354], defers := [] }) ?_ ?_
              · by_cases hN : okN i = true
                · have hc0 : codeN i = 0 := by unfold codeN; rw [if_pos hN]
                  obtain ⟨i1, i2⟩ := okN_true i hN
                  have a1 : decide (1 ≤ i) = true := decide_eq_true i1
                  have a2 : decide (i ≤ 64) = true := decide_eq_true i2
                  have a3 : ((re.length : Int) != i) = false := by rw [bne_eq_false_iff_eq, HEL.out]; unfold lenN; rw [if_pos hN]; omega
                  rw [hc0]
                  clear hc0 hN
                  refine wp_region_sched (fun X => X.cell? ⟨b19, 0, none⟩ = some (.slice xe re.length ce) ∧ X.cell? ⟨w.heap.size, 0, none⟩ = some (.slice x rs.length c) ∧ X.cell? ⟨b13, 0, none⟩ = some (.slice xj rw.length cj) ∧ Turns (fun _ => False) V9 X) (.one [0, 1, 2, 3, 4, 5, 6, 7, 8, 9, 10, 11, 12, 13, 14, 15, 16, 17, 18, 19, 20, 21, 22, 23, 24, 25, 26, 27, 28, 29, 30, 31, 32, 33, 34, 35, 37, 38] 36 (.one [] 39 (.done [40, 41, 42, 43, 44, 45, 46, 47, 48, 49, 50, 51, 52, 53]))) (by kernel_rfl) (by kernel_rfl) (fun _ _ _ _ _ h => h) ⟨v19, g6, c19, (Turns.refl _ _).drew⟩ ?_
                  rintro X ⟨x19, x6, x13, tX⟩
                  have hX : Below V9.heap.size V9 X := tX.below (Nat.le_refl _) (fun _ _ h => h)
                  clear tX
                  rw [wpSched]
                  simp only [pick, List.map_cons, List.map_nil, Array.getD_eq_getD_getElem?, List.getElem?_toArray, List.getElem?_cons_succ, List.getElem?_cons_zero, Option.getD_some]
                  have k19 := plusW_cell x19
                  have k6 := plusW_cell x6
                  have k13 := plusW_cell x13
                  repeat (first | go_big_quiet_step (fail) | quiet_step (fail))
                  refine wpQuiet_nil ?_
                  clear k19 k6 k13
                  refine heavy_want (by rfl) (fun K' hK' => ?_)
                  go_simp
                  refine (valid_any x rs c _ (hs.later (thru hBz hX)) hrn2).mono ?_
                  rintro e X1 ⟨rfl, hb⟩
                  refine hK' _ _ hb ?_
                  clear hK' K'
                  rw [HSV.out]
                  replace hX := thru hX hb
                  clear hb
                  try simp only [Act.put, List.setIfInBounds_toArray, List.set_cons_zero, List.set_cons_succ]
                  rw [wpSched]
                  simp only [pick, List.map_nil, Array.getD_eq_getD_getElem?, List.getElem?_toArray, List.getElem?_cons_succ, List.getElem?_cons_zero, Option.getD_some]
                  refine wpQuiet_nil ?_
                  refine heavy_want (by rfl) (fun K' hK' => ?_)
                  go_simp
                  refine (refValid_any xj rw cj _ (hwas.later hX) hrw2).mono ?_
                  rintro e X2 ⟨rfl, hw2⟩
                  obtain rfl : X1 = X2 := hw2.symm
                  clear hw2
                  refine hK' _ _ (Below.refl _ _) ?_
                  clear hK' K'
                  rw [HSW.out]
                  try simp only [Act.put, List.setIfInBounds_toArray, List.set_cons_zero, List.set_cons_succ]
                  rw [wpSched]
                  simp only [pick, List.map_cons, List.map_nil, Array.getD_eq_getD_getElem?, List.getElem?_toArray, List.getElem?_cons_succ, List.getElem?_cons_zero, Option.getD_some]
                  have qa := fun w' (hw' : OutOf X1 w') => run_conv (P := Try.prog) (src := 25) (e := 5) (dst := 9) Try.underlying25 Try.underlying5 Try.underlying9 ((hoa.bts.later hX).later hw'.below) ca
                  have qb := fun w' (hw' : OutOf X1 w') => run_conv (P := Try.prog) (src := 25) (e := 5) (dst := 9) Try.underlying25 Try.underlying5 Try.underlying9 ((hbq.later hX).later hw'.below) cq
                  iterate 4 (first | go_big_quiet_step (fail) | quiet_step (fail))
                  refine wpQuiet_conv (by rfl) _ _ (.tmp 166) rfl (u := .slice xa M.length ca) rfl qa ?_
                  try simp only [Act.put, List.setIfInBounds_toArray, List.set_cons_zero, List.set_cons_succ]
                  iterate 1 (first | go_big_quiet_step (fail) | quiet_step (fail))
                  refine wpQuiet_conv (by rfl) _ _ (.tmp 168) rfl (u := .slice xq M.length cq) rfl qb ?_
                  try simp only [Act.put, List.setIfInBounds_toArray, List.set_cons_zero, List.set_cons_succ]
                  repeat (first | go_big_quiet_step (fail) | quiet_step (fail))
                  refine wpQuiet_nil ?_
                  exact NormQ.mk ⟨hX, ex_frame (by kernel_rfl)⟩
                · have hc0 : codeN i = 2 := by unfold codeN; rw [if_neg hN]
                  have hr0 : re.length = 0 := by rw [HEL.out]; unfold lenN; rw [if_neg hN]
                  have a3 : ((re.length : Int) != 0) = false := by rw [bne_eq_false_iff_eq]; omega
                  rw [hc0]
                  clear hc0
                  by_cases i1 : 1 ≤ i
                  · have i2 : ¬ i ≤ 64 := fun h => hN (by unfold okN; simp [i1, h])
                    have a1 : decide (1 ≤ i) = true := decide_eq_true i1
                    have a2 : decide (i ≤ 64) = false := decide_eq_false i2
                    clear hN hr0
                    refine wp_region_sched (fun X => X.cell? ⟨b19, 0, none⟩ = some (.slice xe re.length ce) ∧ X.cell? ⟨w.heap.size, 0, none⟩ = some (.slice x rs.length c) ∧ X.cell? ⟨b13, 0, none⟩ = some (.slice xj rw.length cj) ∧ Turns (fun _ => False) V9 X) (.one [0, 1, 2, 3, 4, 5, 6, 7, 8, 9, 10, 11, 12, 13, 14, 15, 16, 17, 18, 19, 20, 21, 22, 23, 24, 25, 26, 27, 28, 29, 30, 31, 32, 33, 34, 35, 37, 38] 36 (.one [] 39 (.done [40, 41, 42, 43, 44, 45, 46, 47, 48, 49, 50, 51, 52, 53]))) (by kernel_rfl) (by kernel_rfl) (fun _ _ _ _ _ h => h) ⟨v19, g6, c19, (Turns.refl _ _).drew⟩ ?_
                    rintro X ⟨x19, x6, x13, tX⟩
                    have hX : Below V9.heap.size V9 X := tX.below (Nat.le_refl _) (fun _ _ h => h)
                    clear tX
                    rw [wpSched]
                    simp only [pick, List.map_cons, List.map_nil, Array.getD_eq_getD_getElem?, List.getElem?_toArray, List.getElem?_cons_succ, List.getElem?_cons_zero, Option.getD_some]
                    have k19 := plusW_cell x19
                    have k6 := plusW_cell x6
                    have k13 := plusW_cell x13
                    repeat (first | go_big_quiet_step (fail) | quiet_step (fail))
                    refine wpQuiet_nil ?_
                    clear k19 k6 k13
                    refine heavy_want (by rfl) (fun K' hK' => ?_)
                    go_simp
                    refine (valid_any x rs c _ (hs.later (thru hBz hX)) hrn2).mono ?_
                    rintro e X1 ⟨rfl, hb⟩
                    refine hK' _ _ hb ?_
                    clear hK' K'
                    rw [HSV.out]
                    replace hX := thru hX hb
                    clear hb
                    try simp only [Act.put, List.setIfInBounds_toArray, List.set_cons_zero, List.set_cons_succ]
                    rw [wpSched]
                    simp only [pick, List.map_nil, Array.getD_eq_getD_getElem?, List.getElem?_toArray, List.getElem?_cons_succ, List.getElem?_cons_zero, Option.getD_some]
                    refine wpQuiet_nil ?_
                    refine heavy_want (by rfl) (fun K' hK' => ?_)
                    go_simp
                    refine (refValid_any xj rw cj _ (hwas.later hX) hrw2).mono ?_
                    rintro e X2 ⟨rfl, hw2⟩
                    obtain rfl : X1 = X2 := hw2.symm
                    clear hw2
                    refine hK' _ _ (Below.refl _ _) ?_
                    clear hK' K'
                    rw [HSW.out]
                    try simp only [Act.put, List.setIfInBounds_toArray, List.set_cons_zero, List.set_cons_succ]
                    rw [wpSched]
                    simp only [pick, List.map_cons, List.map_nil, Array.getD_eq_getD_getElem?, List.getElem?_toArray, List.getElem?_cons_succ, List.getElem?_cons_zero, Option.getD_some]
                    have qa := fun w' (hw' : OutOf X1 w') => run_conv (P := Try.prog) (src := 25) (e := 5) (dst := 9) Try.underlying25 Try.underlying5 Try.underlying9 ((hoa.bts.later hX).later hw'.below) ca
                    have qb := fun w' (hw' : OutOf X1 w') => run_conv (P := Try.prog) (src := 25) (e := 5) (dst := 9) Try.underlying25 Try.underlying5 Try.underlying9 ((hbq.later hX).later hw'.below) cq
                    iterate 4 (first | go_big_quiet_step (fail) | quiet_step (fail))
                    refine wpQuiet_conv (by rfl) _ _ (.tmp 166) rfl (u := .slice xa M.length ca) rfl qa ?_
                    try simp only [Act.put, List.setIfInBounds_toArray, List.set_cons_zero, List.set_cons_succ]
                    iterate 1 (first | go_big_quiet_step (fail) | quiet_step (fail))
                    refine wpQuiet_conv (by rfl) _ _ (.tmp 168) rfl (u := .slice xq M.length cq) rfl qb ?_
                    try simp only [Act.put, List.setIfInBounds_toArray, List.set_cons_zero, List.set_cons_succ]
                    repeat (first | go_big_quiet_step (fail) | quiet_step (fail))
                    refine wpQuiet_nil ?_
                    exact NormQ.mk ⟨hX, ex_frame (by kernel_rfl)⟩
                  · have a1 : decide (1 ≤ i) = false := decide_eq_false i1
                    clear hN hr0
                    refine wp_region_sched (fun X => X.cell? ⟨b19, 0, none⟩ = some (.slice xe re.length ce) ∧ X.cell? ⟨w.heap.size, 0, none⟩ = some (.slice x rs.length c) ∧ X.cell? ⟨b13, 0, none⟩ = some (.slice xj rw.length cj) ∧ Turns (fun _ => False) V9 X) (.one [0, 1, 2, 3, 4, 5, 6, 7, 8, 9, 10, 11, 12, 13, 14, 15, 16, 17, 18, 19, 20, 21, 22, 23, 24, 25, 26, 27, 28, 29, 30, 31, 32, 33, 34, 35, 37, 38] 36 (.one [] 39 (.done [40, 41, 42, 43, 44, 45, 46, 47, 48, 49, 50, 51, 52, 53]))) (by kernel_rfl) (by kernel_rfl) (fun _ _ _ _ _ h => h) ⟨v19, g6, c19, (Turns.refl _ _).drew⟩ ?_
                    rintro X ⟨x19, x6, x13, tX⟩
                    have hX : Below V9.heap.size V9 X := tX.below (Nat.le_refl _) (fun _ _ h => h)
                    clear tX
                    rw [wpSched]
                    simp only [pick, List.map_cons, List.map_nil, Array.getD_eq_getD_getElem?, List.getElem?_toArray, List.getElem?_cons_succ, List.getElem?_cons_zero, Option.getD_some]
                    have k19 := plusW_cell x19
                    have k6 := plusW_cell x6
                    have k13 := plusW_cell x13
                    repeat (first | go_big_quiet_step (fail) | quiet_step (fail))
                    refine wpQuiet_nil ?_
                    clear k19 k6 k13
                    refine heavy_want (by rfl) (fun K' hK' => ?_)
                    go_simp
                    refine (valid_any x rs c _ (hs.later (thru hBz hX)) hrn2).mono ?_
                    rintro e X1 ⟨rfl, hb⟩
                    refine hK' _ _ hb ?_
                    clear hK' K'
                    rw [HSV.out]
                    replace hX := thru hX hb
                    clear hb
                    try simp only [Act.put, List.setIfInBounds_toArray, List.set_cons_zero, List.set_cons_succ]
                    rw [wpSched]
                    simp only [pick, List.map_nil, Array.getD_eq_getD_getElem?, List.getElem?_toArray, List.getElem?_cons_succ, List.getElem?_cons_zero, Option.getD_some]
                    refine wpQuiet_nil ?_
                    refine heavy_want (by rfl) (fun K' hK' => ?_)
                    go_simp
                    refine (refValid_any xj rw cj _ (hwas.later hX) hrw2).mono ?_
                    rintro e X2 ⟨rfl, hw2⟩
                    obtain rfl : X1 = X2 := hw2.symm
                    clear hw2
                    refine hK' _ _ (Below.refl _ _) ?_
                    clear hK' K'
                    rw [HSW.out]
                    try simp only [Act.put, List.setIfInBounds_toArray, List.set_cons_zero, List.set_cons_succ]
                    rw [wpSched]
                    simp only [pick, List.map_cons, List.map_nil, Array.getD_eq_getD_getElem?, List.getElem?_toArray, List.getElem?_cons_succ, List.getElem?_cons_zero, Option.getD_some]
                    have qa := fun w' (hw' : OutOf X1 w') => run_conv (P := Try.prog) (src := 25) (e := 5) (dst := 9) Try.underlying25 Try.underlying5 Try.underlying9 ((hoa.bts.later hX).later hw'.below) ca
                    have qb := fun w' (hw' : OutOf X1 w') => run_conv (P := Try.prog) (src := 25) (e := 5) (dst := 9) Try.underlying25 Try.underlying5 Try.underlying9 ((hbq.later hX).later hw'.below) cq
                    iterate 4 (first | go_big_quiet_step (fail) | quiet_step (fail))
                    refine wpQuiet_conv (by rfl) _ _ (.tmp 166) rfl (u := .slice xa M.length ca) rfl qa ?_
                    try simp only [Act.put, List.setIfInBounds_toArray, List.set_cons_zero, List.set_cons_succ]
                    iterate 1 (first | go_big_quiet_step (fail) | quiet_step (fail))
                    refine wpQuiet_conv (by rfl) _ _ (.tmp 168) rfl (u := .slice xq M.length cq) rfl qb ?_
                    try simp only [Act.put, List.setIfInBounds_toArray, List.set_cons_zero, List.set_cons_succ]
                    repeat (first | go_big_quiet_step (fail) | quiet_step (fail))
                    refine wpQuiet_nil ?_
                    exact NormQ.mk ⟨hX, ex_frame (by kernel_rfl)⟩
              rintro a' V10 ⟨hb, u, rfl⟩
              replace g6 := later hb g6
              replace c19 := later hb c19
              replace hwas := hwas.later hb
              replace hlist := hlist.later hb
              replace hre := hre.later hb
              replace v19 := later hb v19
              replace hbe := hbe.later hb
              replace B5h := thru B5h hb
              replace hoa := hoa.later hb
              replace hox := hox.later hb
              replace v27 := later hb v27
              replace hoy := hoy.later hb
              replace v29 := later hb v29
              replace hBz := thru hBz hb
              clear hb hbq HSV HSW
              dsimp only
              have hre64 : re.length ≤ 64 := by
                rw [HEL.out]; unfold lenN; split
                · rename_i h; have := okN_true i h; omega
                · omega
              have HB6 := Lib.hid hB
              clear hB
              go_wp2_with fail
              go_loopw [32, 180] (fun _ u180 wr => ∃ j : Nat, j ≤ re.length ∧ u180 = .int .i64 (j : Int) ∧ Below V10.heap.size V10 wr) (fun _ u180 _ => re.length - (intOf u180).toNat)
              case atStart => exact ⟨0, by omega, rfl, Below.refl _ _⟩
              case round =>
                obtain ⟨j, hj, rfl, hB⟩ := hrel
                by_cases hlt : j < re.length
                · have d1 : decide ((j : Int) < (re.length : Int)) = true := by simp; omega
                  have jB : (j : Int) < (re.length : Int) := by omega
                  have hle := HEE.out _ (getD_mem re j rw0 hlt)
                  obtain ⟨b0, o0, rfl, hcj, hrj⟩ := (hre.later hB).at j hlt
                  obtain ⟨⟨xj2, cj2, lj⟩, hrv⟩ : ∃ r, re.getD j rw0 = r := ⟨_, rfl⟩
                  rw [hrv] at hcj hrj hle
                  dsimp only at hle
                  subst hle
                  have HER : Hid (∀ W, Calls Try.prog 19 #[] W fun e w1 => ∃ x c, e = .returned (.slice x 54 c) ∧ OwnsB W.heap.size w1 x c erasedL ∧ Below W.heap.size W w1) := fun W => refErased_any W
                  replace hcj : wr.cell? ⟨b0, o0 + j, none⟩ = some (.slice xj2 erasedL.length cj2) := hcj
                  have hbj : Bts wr xj2 erasedL := hrj.1
                  have h54 : erasedL.length = 54 := erasedL_len
                  obtain ⟨E, hE⟩ : ∃ E, erasedL = E := ⟨_, rfl⟩
                  rw [hE] at hcj hbj HER h54
                  rw [h54] at hcj
                  have H54 := Lib.hid h54
                  clear hrj hrv h54 hE
                  go_wp2_with fail
                  refine wp_region_sched (fun X => True ∧ Turns (fun _ => False) wr X) (.one [0, 1] 2 (.done [3, 4])) (by kernel_rfl) (by kernel_rfl) (fun _ _ _ _ _ h => h) ⟨trivial, (Turns.refl _ _).drew⟩ ?_
                  rintro X ⟨-, tX⟩
                  have hX : Below wr.heap.size wr X := tX.below (Nat.le_refl _) (fun _ _ h => h)
                  clear tX
                  rw [wpSched]
                  simp only [pick, List.map_cons, List.map_nil, Array.getD_eq_getD_getElem?, List.getElem?_toArray, List.getElem?_cons_succ, List.getElem?_cons_zero, Option.getD_some]
                  have qa := fun w' (hw' : OutOf X w') => run_conv (P := Try.prog) (src := 25) (e := 5) (dst := 9) Try.underlying25 Try.underlying5 Try.underlying9 ((hbj.later hX).later hw'.below) cj2
                  rw [H54.out] at qa
                  iterate 1 (first | go_big_quiet_step (fail) | quiet_step (fail))
                  refine wpQuiet_conv (by rfl) _ _ (.tmp 184) rfl (u := .slice xj2 54 cj2) rfl qa ?_
                  try simp only [Act.put, List.setIfInBounds_toArray, List.set_cons_zero, List.set_cons_succ]
                  refine wpQuiet_nil ?_
                  clear qa
                  refine heavy_want (by rfl) (fun K' hK' => ?_)
                  go_simp
                  refine (HER.out _).mono ?_
                  rintro e X1 ⟨xe1, ce1, rfl, hoe, hb⟩
                  refine hK' _ _ hb ?_
                  clear hK' K'
                  replace hX := thru hX hb
                  have hbe1 := hoe.bts
                  clear hb hoe
                  try simp only [Act.put, List.setIfInBounds_toArray, List.set_cons_zero, List.set_cons_succ]
                  rw [wpSched]
                  simp only [pick, List.map_cons, List.map_nil, Array.getD_eq_getD_getElem?, List.getElem?_toArray, List.getElem?_cons_succ, List.getElem?_cons_zero, Option.getD_some]
                  have qb := fun w' (hw' : OutOf X1 w') => run_conv (P := Try.prog) (src := 25) (e := 5) (dst := 9) Try.underlying25 Try.underlying5 Try.underlying9 ((hbe1).later hw'.below) ce1
                  rw [H54.out] at qb
                  refine wpQuiet_conv (by rfl) _ _ (.tmp 186) rfl (u := .slice xe1 54 ce1) rfl qb ?_
                  try simp only [Act.put, List.setIfInBounds_toArray, List.set_cons_zero, List.set_cons_succ]
                  repeat (first | go_big_quiet_step (fail) | quiet_step (fail))
                  refine wpQuiet_nil ?_
                  clear qb
                  have hB2 := thru hB hX
                  clear hX hB hcj hbj hbe1
                  go_wp2_with fail
                  exact ⟨⟨j + 1, by omega, by go_num, hB2⟩, by simp [intOf]; omega⟩
                · obtain rfl : j = re.length := by omega
                  replace g6 := later hB g6
                  replace c19 := later hB c19
                  replace hwas := hwas.later hB
                  replace hlist := hlist.later hB
                  replace hbe := hbe.later hB
                  replace hoa := hoa.later hB
                  replace hox := hox.later hB
                  replace v27 := later hB v27
                  replace hoy := hoy.later hB
                  replace v29 := later hB v29
                  replace B5h := thru B5h hB
                  replace hBz := thru hBz hB
                  clear hB hlt hre v19 HEE HEL
                  obtain ⟨V11, hV11⟩ : ∃ v : World, wr = v := ⟨_, rfl⟩
                  rw [hV11] at g6 c19 hwas hlist hbe hoa hox v27 hoy v29 hBz B5h ⊢
                  clear hV11
                  go_wp2_with fail
                  refine wp_cutN (fun a' w' => Below V11.heap.size V11 w' ∧ ∃ u : Nat → Value, a' = { tmps := #[u 0, .int .i64 i, .slice xd d.length cd, .slice y os.length cy, .int .i64 n, .int .i64 k, .pointer (some ⟨w.heap.size, 0, none⟩), u 7, u 8, u 9, u 10, u 11, u 12, .pointer (some ⟨b13, 0, none⟩), .slice xl os.length cl, u 15, u 16, u 17, u 18, u 19, u 20, u 21, u 22, .slice xa M.length ca, u 24, u 25, u 26, .pointer (some ⟨b27, 0, none⟩), .int .i64 cR, .pointer (some ⟨b29, 0, none⟩), .int .i64 cC, u 31, u 32, u 33, u 34, u 35, u 36, u 37, u 38, u 39, u 40, u 41, u 42, u 43, u 44, u 45, u 46, u 47, u 48, u 49, u 50, u 51, u 52, u 53, u 54, u 55, u 56, u 57, u 58, u 59, u 60, u 61, u 62, u 63, u 64, u 65, u 66, u 67, u 68, u 69, u 70, u 71, u 72, u 73, u 74, u 75, u 76, u 77, u 78, u 79, u 80, u 81, u 82, u 83, u 84, u 85, u 86, u 87, u 88, u 89, u 90, u 91, u 92, u 93, u 94, u 95, u 96, u 97, u 98, u 99, u 100, u 101, u 102, u 103, u 104, u 105, u 106, u 107, u 108, u 109, u 110, u 111, u 112, u 113, u 114, u 115, u 116, u 117, u 118, u 119, u 120, u 121, u 122, u 123, u 124, u 125, u 126, u 127, u 128, u 129, u 130, u 131, u 132, u 133, u 134, u 135, u 136, u 137, u 138, u 139, u 140, u 141, u 142, u 143, u 144, u 145, u 146, u 147, u 148, u 149, u 150, u 151, u 152, u 153, u 154, u 155, u 156, u 157, u 158, u 159, u 160, u 161, u 162, u 163, u 164, u 165, u 166, u 167, u 168, u 169, u 170, u 171, u 172, u 173, u 174, u 175, u 176, u 177, u 178, u 179, u 180, u 181, u 182, u 183, u 184, u 185, u 186, u 187, u 188, u 189, u 190, u 191, u 192, u 193, u 194, u 195, u 196, u 197, u 198, u 199, u 200, u 201, u 202, u 203, u 204, u 205, u 206, u 207, u 208, u 209, u 210, u 211, u 212, u 213, u 214, u 215, u 216, u 217, .bool false, u 219, u 220, u 221, u 222, u 223, u 224, u 225, u 226, u 227, u 228, u 229, u 230, u 231, u 232, u 233, u 234, u 235, u 236, u 237, u 238, u 239, u 240, u 241, u 242, u 243, u 244, u 245, u 246, u 247, u 248, u 249, u 250, u 251, u 252, u 253, u 254, u 255, u 256, u 257, u 258, u 259, u 260, u 261, u 262, u 263, u 264, u 265, u 266, u 267, u 268, u 269, u 270, u 271, u 272, u 273, u 274, u 275, u 276, u 277, u 278, u 279, u 280, u 281, u 282, u 283, u 284, u 285, u 286, u 287, u 288, u 289, u 290, u 291, u 292, u 293, u 294, u 295, u 296, u 297, u 298, u 299, u 300, u 301, u 302, u 303, u 304, u 305, u 306, u 307, u 308, u 309, u 310, u 311, u 312, u 313, u 314, u 315, u 316, u 317, u 318, u 319, u 320, u 321, u 322, u 323, u 324, u 325, u 326, u 327, u 328, u 329, u 330, u 331, u 332, u 333, u 334, u 335, u 336, u 337, u 338, u 339, u 340, u 341, u 342, u 343, u 344, u 345, u 346, u 347, u 348, u 349, u 350, u 351, u 352, u 353, u 354], defers := [] }) ?_ ?_
                  · by_cases h48 : d.length ≤ 48
                    · have hc : codeE d = 0 := by unfold codeE; rw [if_pos h48]
                      have hoE : outE d = encL d := by unfold outE; rw [if_pos h48]
                      have hlE : (encL d).length = 54 := encL_len d h48
                      have HEN : Hid (∀ W, Below w.heap.size w W → Calls Try.prog 20 #[.slice xd d.length cd] W fun e w1 => ∃ y cap, e = .returned (.slice y 54 cap) ∧ OwnsB W.heap.size w1 y cap (encL d) ∧ Below W.heap.size W w1) := fun W hW => refEncode_yes xd d cd W (hdb.later hW) hdn h48
                      rw [hoE] at hbe
                      rw [hoE, hc]
                      obtain ⟨E, hE⟩ : ∃ E, encL d = E := ⟨_, rfl⟩
                      rw [hE] at hlE hbe HEN ⊢
                      clear hE
                      have a1 : decide ((48 : Int) < (d.length : Int)) = false := decide_eq_false (by omega)
                      have a2 : decide ((d.length : Int) ≤ 48) = true := decide_eq_true (by omega)
                      have a1n : decide (48 < d.length) = false := decide_eq_false (by omega)
                      have a2n : decide (d.length ≤ 48) = true := decide_eq_true h48
                      have HLE := Lib.hid hlE
                      clear hc hoE hlE
                      refine wp_region_sched (fun X => True ∧ Turns (fun _ => False) V11 X) (.one [0, 1, 2, 3, 4, 5, 6, 7, 8, 9, 10, 11, 12, 13, 14, 15, 16, 17, 18, 19, 20, 21, 22] 23 (.done [24, 25, 26, 27, 28])) (by kernel_rfl) (by kernel_rfl) (fun _ _ _ _ _ h => h) ⟨trivial, (Turns.refl _ _).drew⟩ ?_
                      rintro X ⟨-, tX⟩
                      have hX : Below V11.heap.size V11 X := tX.below (Nat.le_refl _) (fun _ _ h => h)
                      clear tX
                      rw [wpSched]
                      simp only [pick, List.map_cons, List.map_nil, Array.getD_eq_getD_getElem?, List.getElem?_toArray, List.getElem?_cons_succ, List.getElem?_cons_zero, Option.getD_some]
                      have qa := fun w' (hw' : OutOf X w') => run_conv (P := Try.prog) (src := 25) (e := 5) (dst := 9) Try.underlying25 Try.underlying5 Try.underlying9 ((hbe.later hX).later hw'.below) cb
                      iterate 21 (first | go_big_quiet_step (fail) | quiet_step (fail))
                      refine wpQuiet_conv (by rfl) _ _ (.tmp 210) rfl (u := .slice xb E.length cb) rfl qa ?_
                      try simp only [Act.put, List.setIfInBounds_toArray, List.set_cons_zero, List.set_cons_succ]
                      iterate 1 (first | go_big_quiet_step (fail) | quiet_step (fail))
                      refine wpQuiet_nil ?_
                      clear qa
                      refine heavy_want (by rfl) (fun K' hK' => ?_)
                      go_simp
                      refine (HEN.out _ (thru hBz hX)).mono ?_
                      rintro e X1 ⟨xe1, ce1, rfl, hoe, hb⟩
                      refine hK' _ _ hb ?_
                      clear hK' K'
                      replace hX := thru hX hb
                      have hbe1 := hoe.bts
                      clear hb hoe
                      try simp only [Act.put, List.setIfInBounds_toArray, List.set_cons_zero, List.set_cons_succ]
                      rw [wpSched]
                      simp only [pick, List.map_cons, List.map_nil, Array.getD_eq_getD_getElem?, List.getElem?_toArray, List.getElem?_cons_succ, List.getElem?_cons_zero, Option.getD_some]
                      have qb := fun w' (hw' : OutOf X1 w') => run_conv (P := Try.prog) (src := 25) (e := 5) (dst := 9) Try.underlying25 Try.underlying5 Try.underlying9 ((hbe1).later hw'.below) ce1
                      rw [HLE.out] at qb
                      refine wpQuiet_conv (by rfl) _ _ (.tmp 213) rfl (u := .slice xe1 54 ce1) rfl qb ?_
                      try simp only [Act.put, List.setIfInBounds_toArray, List.set_cons_zero, List.set_cons_succ]
                      repeat (first | go_big_quiet_step (fail) | quiet_step (fail))
                      refine wpQuiet_nil ?_
                      exact NormQ.mk ⟨hX, ex_frame (by kernel_rfl)⟩
                    · have hc : codeE d = 3 := by unfold codeE; rw [if_neg h48]
                      have hoE : outE d = [] := by unfold outE; rw [if_neg h48]
                      rw [hoE, hc]
                      have a1 : decide ((48 : Int) < (d.length : Int)) = true := decide_eq_true (by omega)
                      have a2 : decide ((d.length : Int) ≤ 48) = false := decide_eq_false (by omega)
                      have a1n : decide (48 < d.length) = true := decide_eq_true (by omega)
                      have a2n : decide (d.length ≤ 48) = false := decide_eq_false h48
                      clear hc hoE
                      refine wp_region_sched (fun X => True ∧ Turns (fun _ => False) V11 X) (.one [0, 1, 2, 3, 4, 5, 6, 7, 8, 9, 10, 11, 12, 13, 14, 15, 16, 17, 18, 19, 20, 21, 22] 23 (.done [24, 25, 26, 27, 28])) (by kernel_rfl) (by kernel_rfl) (fun _ _ _ _ _ h => h) ⟨trivial, (Turns.refl _ _).drew⟩ ?_
                      rintro X ⟨-, tX⟩
                      have hX : Below V11.heap.size V11 X := tX.below (Nat.le_refl _) (fun _ _ h => h)
                      clear tX
                      rw [wpSched]
                      simp only [pick, List.map_cons, List.map_nil, Array.getD_eq_getD_getElem?, List.getElem?_toArray, List.getElem?_cons_succ, List.getElem?_cons_zero, Option.getD_some]
                      repeat (first | go_big_quiet_step (fail) | quiet_step (fail))
                      refine wpQuiet_nil ?_
                      refine heavy_skip (by rfl) ?_
                      try simp only [Act.put, List.setIfInBounds_toArray, List.set_cons_zero, List.set_cons_succ]
                      rw [wpSched]
                      simp only [pick, List.map_cons, List.map_nil, Array.getD_eq_getD_getElem?, List.getElem?_toArray, List.getElem?_cons_succ, List.getElem?_cons_zero, Option.getD_some]
                      repeat (first | go_big_quiet_step (fail) | quiet_step (fail))
                      refine wpQuiet_nil ?_
                      exact NormQ.mk ⟨hX, ex_frame (by kernel_rfl)⟩
                  rintro a' V12 ⟨hb, u, rfl⟩
                  replace g6 := later hb g6
                  replace c19 := later hb c19
                  replace hwas := hwas.later hb
                  replace hlist := hlist.later hb
                  replace hoa := hoa.later hb
                  replace hox := hox.later hb
                  replace v27 := later hb v27
                  replace hoy := hoy.later hb
                  replace v29 := later hb v29
                  replace B5h := thru B5h hb
                  replace hBz := thru hBz hb
                  clear hb hbe
                  dsimp only
                  go_wp2_with fail
                  refine wp_cutN (fun a' w' => Below V12.heap.size V12 w' ∧ ∃ u : Nat → Value, a' = { tmps := #[u 0, .int .i64 i, .slice xd d.length cd, .slice y os.length cy, .int .i64 n, .int .i64 k, .pointer (some ⟨w.heap.size, 0, none⟩), u 7, u 8, u 9, u 10, u 11, u 12, .pointer (some ⟨b13, 0, none⟩), .slice xl os.length cl, u 15, u 16, u 17, u 18, u 19, u 20, u 21, u 22, .slice xa M.length ca, u 24, u 25, u 26, .pointer (some ⟨b27, 0, none⟩), .int .i64 cR, .pointer (some ⟨b29, 0, none⟩), .int .i64 cC, u 31, u 32, .slice xj rw.length cj, .slice xj rw.length cj, u 35, u 36, u 37, u 38, u 39, u 40, u 41, u 42, u 43, u 44, u 45, u 46, u 47, u 48, u 49, u 50, u 51, u 52, u 53, u 54, u 55, u 56, u 57, u 58, u 59, u 60, u 61, u 62, u 63, u 64, u 65, u 66, u 67, u 68, u 69, u 70, u 71, u 72, u 73, u 74, u 75, u 76, u 77, u 78, u 79, u 80, u 81, u 82, u 83, u 84, u 85, u 86, u 87, u 88, u 89, u 90, u 91, u 92, u 93, u 94, u 95, u 96, u 97, u 98, u 99, u 100, u 101, u 102, u 103, u 104, u 105, u 106, u 107, u 108, u 109, u 110, u 111, u 112, u 113, u 114, u 115, u 116, u 117, u 118, u 119, u 120, u 121, u 122, u 123, u 124, u 125, u 126, u 127, u 128, u 129, u 130, u 131, u 132, u 133, u 134, u 135, u 136, u 137, u 138, u 139, u 140, u 141, u 142, u 143, u 144, u 145, u 146, u 147, u 148, u 149, u 150, u 151, u 152, u 153, u 154, u 155, u 156, u 157, u 158, u 159, u 160, u 161, u 162, u 163, u 164, u 165, u 166, u 167, u 168, u 169, u 170, u 171, u 172, u 173, u 174, u 175, u 176, u 177, u 178, u 179, u 180, u 181, u 182, u 183, u 184, u 185, u 186, u 187, u 188, u 189, u 190, u 191, u 192, u 193, u 194, u 195, u 196, u 197, u 198, u 199, u 200, u 201, u 202, u 203, u 204, u 205, u 206, u 207, u 208, u 209, u 210, u 211, u 212, u 213, u 214, u 215, u 216, u 217, u 218, u 219, u 220, u 221, u 222, u 223, u 224, u 225, u 226, u 227, u 228, u 229, u 230, u 231, u 232, u 233, u 234, u 235, u 236, u 237, u 238, u 239, u 240, u 241, u 242, u 243, u 244, u 245, u 246, u 247, u 248, u 249, u 250, u 251, u 252, u 253, u 254, u 255, u 256, u 257, u 258, u 259, u 260, u 261, u 262, u 263, u 264, u 265, u 266, u 267, u 268, u 269, u 270, u 271, u 272, u 273, u 274, u 275, u 276, u 277, u 278, u 279, u 280, u 281, u 282, u 283, u 284, u 285, u 286, u 287, u 288, u 289, u 290, u 291, u 292, u 293, u 294, u 295, u 296, u 297, u 298, u 299, u 300, u 301, u 302, u 303, u 304, u 305, u 306, u 307, u 308, u 309, u 310, u 311, u 312, u 313, u 314, u 315, u 316, u 317, u 318, u 319, u 320, u 321, u 322, u 323, u 324, u 325, u 326, u 327, u 328, u 329, u 330, u 331, u 332, u 333, u 334, u 335, u 336, u 337, u 338, u 339, u 340, u 341, u 342, u 343, u 344, u 345, u 346, u 347, u 348, u 349, u 350, u 351, u 352, u 353, u 354], defers := [] }) ?_ ?_
                  · refine wp_region_sched (fun X => X.cell? ⟨b13, 0, none⟩ = some (.slice xj rw.length cj) ∧ Turns (fun _ => False) V12 X) (.done [0, 1, 2, 3, 4, 5]) (by kernel_rfl) (by kernel_rfl) (fun _ _ _ _ _ h => h) ⟨c19, (Turns.refl _ _).drew⟩ ?_
                    rintro X ⟨x13, tX⟩
                    have hX : Below V12.heap.size V12 X := tX.below (Nat.le_refl _) (fun _ _ h => h)
                    clear tX
                    rw [wpSched]
                    simp only [pick, List.map_cons, List.map_nil, Array.getD_eq_getD_getElem?, List.getElem?_toArray, List.getElem?_cons_succ, List.getElem?_cons_zero, Option.getD_some]
                    have k13 := plusW_cell x13
                    repeat (first | go_big_quiet_step (fail) | quiet_step (fail))
                    refine wpQuiet_nil ?_
                    exact NormQ.mk ⟨hX, ex_frame (by kernel_rfl)⟩
                  rintro a' V13 ⟨hb, u, rfl⟩
                  replace g6 := later hb g6
                  replace c19 := later hb c19
                  replace hwas := hwas.later hb
                  replace hlist := hlist.later hb
                  replace hoa := hoa.later hb
                  replace hox := hox.later hb
                  replace v27 := later hb v27
                  replace hoy := hoy.later hb
                  replace v29 := later hb v29
                  replace B5h := thru B5h hb
                  replace hBz := thru hBz hb
                  clear hb
                  dsimp only
                  refine (‹∀ (a : Act) (w : World), Code.wp _ _ _ a w → _› : _) _ _ ?_
                  refine wp_seq_k (fun K1 h1 => ?_)
                  refine wp_cutN (fun a' w' => Below V13.heap.size V13 w' ∧ ∃ u : Nat → Value, a' = { tmps := #[u 0, .int .i64 i, .slice xd d.length cd, .slice y os.length cy, .int .i64 n, .int .i64 k, .pointer (some ⟨w.heap.size, 0, none⟩), u 7, u 8, u 9, u 10, u 11, u 12, .pointer (some ⟨b13, 0, none⟩), .slice xl os.length cl, u 15, u 16, u 17, u 18, u 19, u 20, u 21, u 22, .slice xa M.length ca, u 24, u 25, u 26, .pointer (some ⟨b27, 0, none⟩), .int .i64 cR, .pointer (some ⟨b29, 0, none⟩), .int .i64 cC, u 31, u 32, .slice xj rw.length cj, .slice xj rw.length cj, .bool v, u 36, u 37, u 38, u 39, u 40, u 41, u 42, u 43, u 44, u 45, u 46, u 47, u 48, u 49, u 50, u 51, u 52, u 53, u 54, u 55, u 56, u 57, u 58, u 59, u 60, u 61, u 62, u 63, u 64, u 65, u 66, u 67, u 68, u 69, u 70, u 71, u 72, u 73, u 74, u 75, u 76, u 77, u 78, u 79, u 80, u 81, u 82, u 83, u 84, u 85, u 86, u 87, u 88, u 89, u 90, u 91, u 92, u 93, u 94, u 95, u 96, u 97, u 98, u 99, u 100, u 101, u 102, u 103, u 104, u 105, u 106, u 107, u 108, u 109, u 110, u 111, u 112, u 113, u 114, u 115, u 116, u 117, u 118, u 119, u 120, u 121, u 122, u 123, u 124, u 125, u 126, u 127, u 128, u 129, u 130, u 131, u 132, u 133, u 134, u 135, u 136, u 137, u 138, u 139, u 140, u 141, u 142, u 143, u 144, u 145, u 146, u 147, u 148, u 149, u 150, u 151, u 152, u 153, u 154, u 155, u 156, u 157, u 158, u 159, u 160, u 161, u 162, u 163, u 164, u 165, u 166, u 167, u 168, u 169, u 170, u 171, u 172, u 173, u 174, u 175, u 176, u 177, u 178, u 179, u 180, u 181, u 182, u 183, u 184, u 185, u 186, u 187, u 188, u 189, u 190, u 191, u 192, u 193, u 194, u 195, u 196, u 197, u 198, u 199, u 200, u 201, u 202, u 203, u 204, u 205, u 206, u 207, u 208, u 209, u 210, u 211, u 212, u 213, u 214, u 215, u 216, u 217, u 218, u 219, u 220, u 221, u 222, u 223, u 224, u 225, u 226, u 227, u 228, u 229, u 230, u 231, u 232, u 233, u 234, u 235, u 236, u 237, u 238, u 239, u 240, u 241, u 242, u 243, u 244, u 245, u 246, u 247, u 248, u 249, u 250, u 251, u 252, u 253, u 254, u 255, u 256, u 257, u 258, u 259, u 260, u 261, u 262, u 263, u 264, u 265, u 266, u 267, u 268, u 269, u 270, u 271, u 272, u 273, u 274, u 275, u 276, u 277, u 278, u 279, u 280, u 281, u 282, u 283, u 284, u 285, u 286, u 287, u 288, u 289, u 290, u 291, u 292, u 293, u 294, u 295, u 296, u 297, u 298, u 299, u 300, u 301, u 302, u 303, u 304, u 305, u 306, u 307, u 308, u 309, u 310, u 311, u 312, u 313, u 314, u 315, u 316, u 317, u 318, u 319, u 320, u 321, u 322, u 323, u 324, u 325, u 326, u 327, u 328, u 329, u 330, u 331, u 332, u 333, u 334, u 335, u 336, u 337, u 338, u 339, u 340, u 341, u 342, u 343, u 344, u 345, u 346, u 347, u 348, u 349, u 350, u 351, u 352, u 353, u 354], defers := [] }) ?_ ?_
                  · have hfi := refFits_any xj rw cj xl os cl V13 hwas hrw2 hlist (by omega)
                    rw [HWM.out, HV.out] at hfi
                    have HFI := Lib.hid hfi
                    clear hfi
                    go_wp2_with fail
                    refine HFI.out.mono ?_
                    rintro e V14 ⟨rfl, hw⟩
                    obtain rfl : V13 = V14 := hw.symm
                    clear hw
                    go_wp2_with fail
                    exact NormQ.mk ⟨Below.refl _ _, ex_frame (by kernel_rfl)⟩
                  rintro a' V14 ⟨hb, u, rfl⟩
                  replace g6 := later hb g6
                  replace c19 := later hb c19
                  replace hwas := hwas.later hb
                  replace hlist := hlist.later hb
                  replace hoa := hoa.later hb
                  replace hox := hox.later hb
                  replace v27 := later hb v27
                  replace hoy := hoy.later hb
                  replace v29 := later hb v29
                  replace B5h := thru B5h hb
                  replace hBz := thru hBz hb
                  clear hb
                  refine h1 _ _ ?_
                  clear h1 K1
                  refine wp_seq_k (fun K1 h1 => ?_)
                  refine wp_cutN (fun a' w' => Below V14.heap.size V14 w' ∧ ∃ (xg : Option Addr) (cg : Nat) (rg : List Rw), Rws w' xg rg ∧ rg.map (·.l) = LR ∧ ∃ u : Nat → Value, a' = { tmps := #[u 0, .int .i64 i, .slice xd d.length cd, .slice y os.length cy, .int .i64 n, .int .i64 k, .pointer (some ⟨w.heap.size, 0, none⟩), u 7, u 8, u 9, u 10, u 11, u 12, .pointer (some ⟨b13, 0, none⟩), .slice xl os.length cl, u 15, u 16, u 17, u 18, u 19, u 20, u 21, u 22, .slice xa M.length ca, u 24, u 25, u 26, .pointer (some ⟨b27, 0, none⟩), .int .i64 cR, .pointer (some ⟨b29, 0, none⟩), .int .i64 cC, u 31, u 32, .slice xg rg.length cg, .slice xj rw.length cj, .bool v, u 36, u 37, u 38, u 39, u 40, u 41, u 42, u 43, u 44, u 45, u 46, u 47, u 48, u 49, u 50, u 51, u 52, u 53, u 54, u 55, u 56, u 57, u 58, u 59, u 60, u 61, u 62, u 63, u 64, u 65, u 66, u 67, u 68, u 69, u 70, u 71, u 72, u 73, u 74, u 75, u 76, u 77, u 78, u 79, u 80, u 81, u 82, u 83, u 84, u 85, u 86, u 87, u 88, u 89, u 90, u 91, u 92, u 93, u 94, u 95, u 96, u 97, u 98, u 99, u 100, u 101, u 102, u 103, u 104, u 105, u 106, u 107, u 108, u 109, u 110, u 111, u 112, u 113, u 114, u 115, u 116, u 117, u 118, u 119, u 120, u 121, u 122, u 123, u 124, u 125, u 126, u 127, u 128, u 129, u 130, u 131, u 132, u 133, u 134, u 135, u 136, u 137, u 138, u 139, u 140, u 141, u 142, u 143, u 144, u 145, u 146, u 147, u 148, u 149, u 150, u 151, u 152, u 153, u 154, u 155, u 156, u 157, u 158, u 159, u 160, u 161, u 162, u 163, u 164, u 165, u 166, u 167, u 168, u 169, u 170, u 171, u 172, u 173, u 174, u 175, u 176, u 177, u 178, u 179, u 180, u 181, u 182, u 183, u 184, u 185, u 186, u 187, u 188, u 189, u 190, u 191, u 192, u 193, u 194, u 195, u 196, u 197, u 198, u 199, u 200, u 201, u 202, u 203, u 204, u 205, u 206, u 207, u 208, u 209, u 210, u 211, u 212, u 213, u 214, u 215, u 216, u 217, u 218, u 219, u 220, u 221, u 222, u 223, u 224, u 225, u 226, u 227, u 228, u 229, u 230, u 231, u 232, u 233, u 234, u 235, u 236, u 237, u 238, u 239, u 240, u 241, u 242, u 243, u 244, u 245, u 246, u 247, u 248, u 249, u 250, u 251, u 252, u 253, u 254, u 255, u 256, u 257, u 258, u 259, u 260, u 261, u 262, u 263, u 264, u 265, u 266, u 267, u 268, u 269, u 270, u 271, u 272, u 273, u 274, u 275, u 276, u 277, u 278, u 279, u 280, u 281, u 282, u 283, u 284, u 285, u 286, u 287, u 288, u 289, u 290, u 291, u 292, u 293, u 294, u 295, u 296, u 297, u 298, u 299, u 300, u 301, u 302, u 303, u 304, u 305, u 306, u 307, u 308, u 309, u 310, u 311, u 312, u 313, u 314, u 315, u 316, u 317, u 318, u 319, u 320, u 321, u 322, u 323, u 324, u 325, u 326, u 327, u 328, u 329, u 330, u 331, u 332, u 333, u 334, u 335, u 336, u 337, u 338, u 339, u 340, u 341, u 342, u 343, u 344, u 345, u 346, u 347, u 348, u 349, u 350, u 351, u 352, u 353, u 354], defers := [] }) ?_ ?_
                  · cases v
                    · have HLR2 := HLR.out
                      rw [if_neg Bool.false_ne_true] at HLR2
                      have HLR3 := Lib.hid HLR2
                      clear HLR2
                      go_wp2_with fail
                      exact NormQ.mk ⟨Below.refl _ _, xj, cj, rw, hwas, HWM.out.trans HLR3.out, ex_frame (by kernel_rfl)⟩
                    · have hlr := HLR.out
                      rw [if_pos rfl] at hlr
                      have hru := refRun_any xj rw cj xl os cl V14 hwas hlist (by omega) (by rw [HWM.out]; exact HV.out)
                      rw [HWM.out, hlr] at hru
                      have HRU := Lib.hid hru
                      clear hru hlr
                      go_wp2_with fail
                      refine HRU.out.mono ?_
                      rintro e V15 ⟨xg, cg, rg, rfl, hrg, hmg, hb⟩
                      have HRG := Lib.hid hrg
                      have HMG := Lib.hid hmg
                      have HBB := Lib.hid hb
                      clear hrg hmg hb
                      go_wp2_with fail
                      exact NormQ.mk ⟨HBB.out, xg, cg, rg, HRG.out, HMG.out, ex_frame (by kernel_rfl)⟩
                  rintro a' V15 ⟨hb, xg, cg, rg, hrg, hmg, u, rfl⟩
                  have HMG := Lib.hid hmg
                  clear hmg
                  replace g6 := later hb g6
                  replace c19 := later hb c19
                  replace hwas := hwas.later hb
                  replace hlist := hlist.later hb
                  replace hoa := hoa.later hb
                  replace hox := hox.later hb
                  replace v27 := later hb v27
                  replace hoy := hoy.later hb
                  replace v29 := later hb v29
                  replace B5h := thru B5h hb
                  replace hBz := thru hBz hb
                  clear hb
                  refine h1 _ _ ?_
                  clear h1 K1
                  refine wp_seq_k (fun K1 h1 => ?_)
                  refine wp_cutN (fun a' w' => Below V15.heap.size V15 w' ∧ ∃ u : Nat → Value, a' = { tmps := #[u 0, .int .i64 i, .slice xd d.length cd, .slice y os.length cy, .int .i64 n, .int .i64 k, .pointer (some ⟨w.heap.size, 0, none⟩), u 7, u 8, u 9, u 10, u 11, u 12, .pointer (some ⟨b13, 0, none⟩), .slice xl os.length cl, u 15, u 16, u 17, u 18, u 19, u 20, u 21, u 22, .slice xa M.length ca, u 24, u 25, u 26, .pointer (some ⟨b27, 0, none⟩), .int .i64 cR, .pointer (some ⟨b29, 0, none⟩), .int .i64 cC, u 31, u 32, .slice xg rg.length cg, .slice xj rw.length cj, .bool v, .bool p, u 37, u 38, u 39, u 40, u 41, u 42, u 43, u 44, u 45, u 46, u 47, u 48, u 49, u 50, u 51, u 52, u 53, u 54, u 55, u 56, u 57, u 58, u 59, u 60, u 61, u 62, u 63, u 64, u 65, u 66, u 67, u 68, u 69, u 70, u 71, u 72, u 73, u 74, u 75, u 76, u 77, u 78, u 79, u 80, u 81, u 82, u 83, u 84, u 85, u 86, u 87, u 88, u 89, u 90, u 91, u 92, u 93, u 94, u 95, u 96, u 97, u 98, u 99, u 100, u 101, u 102, u 103, u 104, u 105, u 106, u 107, u 108, u 109, u 110, u 111, u 112, u 113, u 114, u 115, u 116, u 117, u 118, u 119, u 120, u 121, u 122, u 123, u 124, u 125, u 126, u 127, u 128, u 129, u 130, u 131, u 132, u 133, u 134, u 135, u 136, u 137, u 138, u 139, u 140, u 141, u 142, u 143, u 144, u 145, u 146, u 147, u 148, u 149, u 150, u 151, u 152, u 153, u 154, u 155, u 156, u 157, u 158, u 159, u 160, u 161, u 162, u 163, u 164, u 165, u 166, u 167, u 168, u 169, u 170, u 171, u 172, u 173, u 174, u 175, u 176, u 177, u 178, u 179, u 180, u 181, u 182, u 183, u 184, u 185, u 186, u 187, u 188, u 189, u 190, u 191, u 192, u 193, u 194, u 195, u 196, u 197, u 198, u 199, u 200, u 201, u 202, u 203, u 204, u 205, u 206, u 207, u 208, u 209, u 210, u 211, u 212, u 213, u 214, u 215, u 216, u 217, u 218, u 219, u 220, u 221, u 222, u 223, u 224, u 225, u 226, u 227, u 228, u 229, u 230, u 231, u 232, u 233, u 234, u 235, u 236, u 237, u 238, u 239, u 240, u 241, u 242, u 243, u 244, u 245, u 246, u 247, u 248, u 249, u 250, u 251, u 252, u 253, u 254, u 255, u 256, u 257, u 258, u 259, u 260, u 261, u 262, u 263, u 264, u 265, u 266, u 267, u 268, u 269, u 270, u 271, u 272, u 273, u 274, u 275, u 276, u 277, u 278, u 279, u 280, u 281, u 282, u 283, u 284, u 285, u 286, u 287, u 288, u 289, u 290, u 291, u 292, u 293, u 294, u 295, u 296, u 297, u 298, u 299, u 300, u 301, u 302, u 303, u 304, u 305, u 306, u 307, u 308, u 309, u 310, u 311, u 312, u 313, u 314, u 315, u 316, u 317, u 318, u 319, u 320, u 321, u 322, u 323, u 324, u 325, u 326, u 327, u 328, u 329, u 330, u 331, u 332, u 333, u 334, u 335, u 336, u 337, u 338, u 339, u 340, u 341, u 342, u 343, u 344, u 345, u 346, u 347, u 348, u 349, u 350, u 351, u 352, u 353, u 354], defers := [] }) ?_ ?_
                  · cases v
                    · have hp : p = false := by rw [← HP.out, Bool.eq_false_iff]; intro h; have h1 := (cutOk_iff _ _ _ _).1 h; rw [HV.out] at h1; exact absurd h1.1 Bool.false_ne_true
                      have HPF := Lib.hid hp
                      clear hp
                      dsimp only
                      go_wp2_with fail
                      rw [HPF.out]
                      exact NormQ.mk ⟨Below.refl _ _, ex_frame (by kernel_rfl)⟩
                    · by_cases n0 : 0 ≤ n
                      · have a1 : decide (0 ≤ n) = true := decide_eq_true n0
                        by_cases n1 : n < (os.length : Int)
                        · have a2 : decide (n < (os.length : Int)) = true := decide_eq_true n1
                          by_cases k0 : 0 ≤ k
                          · have a3 : decide (0 ≤ k) = true := decide_eq_true k0
                            obtain ⟨m, rfl⟩ : ∃ m : Nat, n = (m : Int) := ⟨n.toNat, by omega⟩
                            have hm1 : m < os.length := by omega
                            have jB : (m : Int) < (os.length : Int) := by omega
                            obtain ⟨b0, o0, rfl, e0, e1, e2, -⟩ := hlist.at m hm1
                            obtain ⟨⟨blk, er, xo, co, od⟩, hoj⟩ : ∃ r, os.getD m op0 = r := ⟨_, rfl⟩
                            rw [hoj] at e0 e1 e2
                            dsimp only at e0 e1 e2
                            have HST : Hid (∀ W, Calls Try.prog 23 #[.agg #[.int .i64 blk, .bool er, .slice xo od.length co]] W fun e w1 => e = .returned (.int .i64 (lenO er : Int)) ∧ Below W.heap.size W w1) := fun W => refSteps_any ⟨blk, er, xo, co, od⟩ W
                            have HOJ := Lib.hid hoj
                            clear hoj
                            have hmin : ∀ (ts : Array TypeId) (t : TypeId) (W : World), (Builtin.min_ ts t #[.int .i64 (m : Int), .int .i64 ((os.length : Int) - 1)]).run Try.prog W = .ok (.int .i64 (m : Int)) W := fun ts t W => by
                              have e : (m : Int) = if (os.length : Int) - 1 < (m : Int) then (os.length : Int) - 1 else (m : Int) := by rw [if_neg (by omega)]
                              conv => rhs; rw [e]
                              simp [Builtin.min_, Builtin.min2]
                            have hmax : ∀ (ts : Array TypeId) (t : TypeId) (W : World), (Builtin.max_ ts t #[.int .i64 (m : Int), .int .i64 0]).run Try.prog W = .ok (.int .i64 (m : Int)) W := fun ts t W => by
                              have h3 : ¬ ((m : Int) < 0) := by omega
                              simp [Builtin.max_, Builtin.max2, h3]
                            have hpv : p = decide (k ≤ (lenO er : Int)) := by
                              rw [← HP.out]
                              by_cases hk : k ≤ (lenO er : Int)
                              · rw [decide_eq_true hk]; exact (cutOk_iff _ _ _ _).2 ⟨HV.out, n0, n1, k0, by rw [Int.toNat_natCast, HOJ.out]; exact hk⟩
                              · rw [decide_eq_false hk, Bool.eq_false_iff]; intro h; have h1 := (cutOk_iff _ _ _ _).1 h; rw [Int.toNat_natCast, HOJ.out] at h1; exact hk h1.2.2.2.2
                            have HPV := Lib.hid hpv
                            clear hpv
                            dsimp only
                            go_wp2_with fail
                            refine (HST.out _).mono ?_
                            rintro e V16 ⟨rfl, hb⟩
                            have HBB := Lib.hid hb
                            clear hb
                            go_wp2_with fail
                            rw [HPV.out]
                            exact NormQ.mk ⟨HBB.out, ex_frame (by kernel_rfl)⟩
                          · have a3 : decide (0 ≤ k) = false := decide_eq_false k0
                            have hp : p = false := by rw [← HP.out, Bool.eq_false_iff]; intro h; have h1 := (cutOk_iff _ _ _ _).1 h; omega
                            have HPF := Lib.hid hp
                            clear hp
                            dsimp only
                            go_wp2_with fail
                            rw [HPF.out]
                            exact NormQ.mk ⟨Below.refl _ _, ex_frame (by kernel_rfl)⟩
                        · have a2 : decide (n < (os.length : Int)) = false := decide_eq_false n1
                          have hp : p = false := by rw [← HP.out, Bool.eq_false_iff]; intro h; have h1 := (cutOk_iff _ _ _ _).1 h; omega
                          have HPF := Lib.hid hp
                          clear hp
                          dsimp only
                          go_wp2_with fail
                          rw [HPF.out]
                          exact NormQ.mk ⟨Below.refl _ _, ex_frame (by kernel_rfl)⟩
                      · have a1 : decide (0 ≤ n) = false := decide_eq_false n0
                        have hp : p = false := by rw [← HP.out, Bool.eq_false_iff]; intro h; have h1 := (cutOk_iff _ _ _ _).1 h; omega
                        have HPF := Lib.hid hp
                        clear hp
                        dsimp only
                        go_wp2_with fail
                        rw [HPF.out]
                        exact NormQ.mk ⟨Below.refl _ _, ex_frame (by kernel_rfl)⟩
                  rintro a' V16 ⟨hb, u, rfl⟩
                  replace g6 := later hb g6
                  replace c19 := later hb c19
                  replace hwas := hwas.later hb
                  replace hlist := hlist.later hb
                  replace hoa := hoa.later hb
                  replace hox := hox.later hb
                  replace v27 := later hb v27
                  replace hoy := hoy.later hb
                  replace v29 := later hb v29
                  replace B5h := thru B5h hb
                  replace hrg := hrg.later hb
                  replace hBz := thru hBz hb
                  clear hb
                  refine h1 _ _ ?_
                  clear h1 K1
                  refine wp_seq_k (fun K1 h1 => ?_)
                  refine wp_cutN (fun a' w' => Below V16.heap.size V16 w' ∧ ∃ (xk : Option Addr) (ck : Nat) (rk : List Rw), Rws w' xk rk ∧ rk.map (·.l) = LC ∧ ∃ u : Nat → Value, a' = { tmps := #[u 0, u 1, u 2, u 3, u 4, u 5, .pointer (some ⟨w.heap.size, 0, none⟩), u 7, u 8, u 9, u 10, u 11, u 12, .pointer (some ⟨b13, 0, none⟩), u 14, u 15, u 16, u 17, u 18, u 19, u 20, u 21, u 22, .slice xa M.length ca, u 24, u 25, u 26, .pointer (some ⟨b27, 0, none⟩), .int .i64 cR, .pointer (some ⟨b29, 0, none⟩), .int .i64 cC, u 31, u 32, .slice xg rg.length cg, .slice xk rk.length ck, .bool v, .bool p, u 37, u 38, u 39, u 40, u 41, u 42, u 43, u 44, u 45, u 46, u 47, u 48, u 49, u 50, u 51, u 52, u 53, u 54, u 55, u 56, u 57, u 58, u 59, u 60, u 61, u 62, u 63, u 64, u 65, u 66, u 67, u 68, u 69, u 70, u 71, u 72, u 73, u 74, u 75, u 76, u 77, u 78, u 79, u 80, u 81, u 82, u 83, u 84, u 85, u 86, u 87, u 88, u 89, u 90, u 91, u 92, u 93, u 94, u 95, u 96, u 97, u 98, u 99, u 100, u 101, u 102, u 103, u 104, u 105, u 106, u 107, u 108, u 109, u 110, u 111, u 112, u 113, u 114, u 115, u 116, u 117, u 118, u 119, u 120, u 121, u 122, u 123, u 124, u 125, u 126, u 127, u 128, u 129, u 130, u 131, u 132, u 133, u 134, u 135, u 136, u 137, u 138, u 139, u 140, u 141, u 142, u 143, u 144, u 145, u 146, u 147, u 148, u 149, u 150, u 151, u 152, u 153, u 154, u 155, u 156, u 157, u 158, u 159, u 160, u 161, u 162, u 163, u 164, u 165, u 166, u 167, u 168, u 169, u 170, u 171, u 172, u 173, u 174, u 175, u 176, u 177, u 178, u 179, u 180, u 181, u 182, u 183, u 184, u 185, u 186, u 187, u 188, u 189, u 190, u 191, u 192, u 193, u 194, u 195, u 196, u 197, u 198, u 199, u 200, u 201, u 202, u 203, u 204, u 205, u 206, u 207, u 208, u 209, u 210, u 211, u 212, u 213, u 214, u 215, u 216, u 217, u 218, u 219, u 220, u 221, u 222, u 223, u 224, u 225, u 226, u 227, u 228, u 229, u 230, u 231, u 232, u 233, u 234, u 235, u 236, u 237, u 238, u 239, u 240, u 241, u 242, u 243, u 244, u 245, u 246, u 247, u 248, u 249, u 250, u 251, u 252, u 253, u 254, u 255, u 256, u 257, u 258, u 259, u 260, u 261, u 262, u 263, u 264, u 265, u 266, u 267, u 268, u 269, u 270, u 271, u 272, u 273, u 274, u 275, u 276, u 277, u 278, u 279, u 280, u 281, u 282, u 283, u 284, u 285, u 286, u 287, u 288, u 289, u 290, u 291, u 292, u 293, u 294, u 295, u 296, u 297, u 298, u 299, u 300, u 301, u 302, u 303, u 304, u 305, u 306, u 307, u 308, u 309, u 310, u 311, u 312, u 313, u 314, u 315, u 316, u 317, u 318, u 319, u 320, u 321, u 322, u 323, u 324, u 325, u 326, u 327, u 328, u 329, u 330, u 331, u 332, u 333, u 334, u 335, u 336, u 337, u 338, u 339, u 340, u 341, u 342, u 343, u 344, u 345, u 346, u 347, u 348, u 349, u 350, u 351, u 352, u 353, u 354], defers := [] }) ?_ ?_
                  · cases p
                    · have HLC2 := HLC.out
                      rw [if_neg Bool.false_ne_true] at HLC2
                      have HLC3 := Lib.hid HLC2
                      clear HLC2
                      dsimp only
                      go_wp2_with fail
                      exact NormQ.mk ⟨Below.refl _ _, xj, cj, rw, hwas, HWM.out.trans HLC3.out, ex_frame (by kernel_rfl)⟩
                    · have hlc := HLC.out
                      rw [if_pos rfl] at hlc
                      obtain ⟨q0, q1, q2, q3, q4⟩ := (cutOk_iff _ _ _ _).1 HP.out
                      obtain ⟨m, rfl⟩ : ∃ m : Nat, n = (m : Int) := ⟨n.toNat, by omega⟩
                      obtain ⟨z, rfl⟩ : ∃ m : Nat, k = (m : Int) := ⟨k.toNat, by omega⟩
                      rw [Int.toNat_natCast] at q4
                      rw [Int.toNat_natCast, Int.toNat_natCast] at hlc
                      have hcu := refCut_any xj rw cj xl os cl m z V16 hwas hlist (by omega) (by rw [HWM.out]; exact q0) (by omega) (by omega)
                      rw [HWM.out, hlc] at hcu
                      have HCU := Lib.hid hcu
                      clear hcu hlc q0 q1 q2 q3 q4
                      dsimp only
                      go_wp2_with fail
                      refine HCU.out.mono ?_
                      rintro e V17 ⟨xk, ck, rk, rfl, hrk, hmk, hb⟩
                      have HRK := Lib.hid hrk
                      have HMK := Lib.hid hmk
                      have HBB := Lib.hid hb
                      clear hrk hmk hb
                      go_wp2_with fail
                      exact NormQ.mk ⟨HBB.out, xk, ck, rk, HRK.out, HMK.out, ex_frame (by kernel_rfl)⟩
                  rintro a' V17 ⟨hb, xk, ck, rk, hrk, hmk, u, rfl⟩
                  have HMK := Lib.hid hmk
                  clear hmk
                  replace g6 := later hb g6
                  replace c19 := later hb c19
                  replace hwas := hwas.later hb
                  replace hlist := hlist.later hb
                  replace hoa := hoa.later hb
                  replace hox := hox.later hb
                  replace v27 := later hb v27
                  replace hoy := hoy.later hb
                  replace v29 := later hb v29
                  replace B5h := thru B5h hb
                  replace hrg := hrg.later hb
                  replace hBz := thru hBz hb
                  clear hb
                  refine h1 _ _ ?_
                  clear h1 K1
                  have hlx : rx.length ≤ 1000 := by
                    have h1 := congrArg List.length HMX.out
                    rw [List.length_map, ← HLR.out] at h1
                    split at h1
                    · rw [runL_len, List.length_map] at h1; omega
                    · rw [List.length_map] at h1; omega
                  have hly : ry.length ≤ 1000 := by
                    have h1 := congrArg List.length HMY.out
                    rw [List.length_map, ← HLC.out] at h1
                    split at h1
                    · rw [cutL_len, List.length_map] at h1; omega
                    · rw [List.length_map] at h1; omega
                  refine wp_seq_k (fun K1 h1 => ?_)
                  refine wp_cutN (fun a' w' => Below V17.heap.size V17 w' ∧ ∃ u : Nat → Value, a' = { tmps := #[u 0, u 1, u 2, u 3, u 4, u 5, .pointer (some ⟨w.heap.size, 0, none⟩), u 7, u 8, u 9, u 10, u 11, u 12, .pointer (some ⟨b13, 0, none⟩), u 14, u 15, u 16, u 17, u 18, u 19, u 20, u 21, u 22, .slice xa M.length ca, u 24, u 25, u 26, .pointer (some ⟨b27, 0, none⟩), u 28, .pointer (some ⟨b29, 0, none⟩), u 30, u 31, u 32, u 33, u 34, u 35, u 36, u 37, u 38, u 39, u 40, u 41, u 42, u 43, u 44, u 45, u 46, u 47, u 48, u 49, u 50, u 51, u 52, u 53, u 54, u 55, u 56, u 57, u 58, u 59, u 60, u 61, u 62, u 63, u 64, u 65, u 66, u 67, u 68, u 69, u 70, u 71, u 72, u 73, u 74, u 75, u 76, u 77, u 78, u 79, u 80, u 81, u 82, u 83, u 84, u 85, u 86, u 87, u 88, u 89, u 90, u 91, u 92, u 93, u 94, u 95, u 96, u 97, u 98, u 99, u 100, u 101, u 102, u 103, u 104, u 105, u 106, u 107, u 108, u 109, u 110, u 111, u 112, u 113, u 114, u 115, u 116, u 117, u 118, u 119, u 120, u 121, u 122, u 123, u 124, u 125, u 126, u 127, u 128, u 129, u 130, u 131, u 132, u 133, u 134, u 135, u 136, u 137, u 138, u 139, u 140, u 141, u 142, u 143, u 144, u 145, u 146, u 147, u 148, u 149, u 150, u 151, u 152, u 153, u 154, u 155, u 156, u 157, u 158, u 159, u 160, u 161, u 162, u 163, u 164, u 165, u 166, u 167, u 168, u 169, u 170, u 171, u 172, u 173, u 174, u 175, u 176, u 177, u 178, u 179, u 180, u 181, u 182, u 183, u 184, u 185, u 186, u 187, u 188, u 189, u 190, u 191, u 192, u 193, u 194, u 195, u 196, u 197, u 198, u 199, u 200, u 201, u 202, u 203, u 204, u 205, u 206, u 207, u 208, u 209, u 210, u 211, u 212, u 213, u 214, u 215, u 216, u 217, u 218, u 219, u 220, u 221, u 222, u 223, u 224, u 225, u 226, u 227, u 228, u 229, u 230, u 231, u 232, u 233, u 234, u 235, u 236, u 237, u 238, u 239, u 240, u 241, u 242, u 243, u 244, u 245, u 246, u 247, u 248, u 249, u 250, u 251, u 252, u 253, u 254, u 255, u 256, u 257, u 258, u 259, u 260, u 261, u 262, u 263, u 264, u 265, u 266, u 267, u 268, u 269, u 270, u 271, u 272, u 273, u 274, u 275, u 276, u 277, u 278, u 279, u 280, u 281, u 282, u 283, u 284, u 285, u 286, u 287, u 288, u 289, u 290, u 291, u 292, u 293, u 294, u 295, u 296, u 297, u 298, u 299, u 300, u 301, u 302, u 303, u 304, u 305, u 306, u 307, u 308, u 309, u 310, u 311, u 312, u 313, u 314, u 315, u 316, u 317, u 318, u 319, u 320, u 321, u 322, u 323, u 324, u 325, u 326, u 327, u 328, u 329, u 330, u 331, u 332, u 333, u 334, u 335, u 336, u 337, u 338, u 339, u 340, u 341, u 342, u 343, u 344, u 345, u 346, u 347, u 348, u 349, u 350, u 351, u 352, u 353, u 354], defers := [] }) ?_ ?_
                  · have hox2 := hox.rws
                    have hoy2 := hoy.rws
                    have hcR := HCR.out
                    have hcC := HCC.out
                    cases v
                    · cases p
                      · rw [if_neg Bool.false_ne_true] at hcR
                        rw [if_neg Bool.false_ne_true] at hcC
                        subst hcR
                        subst hcC
                        dsimp only
                        go_wp2_with fail
                        refine (same_any xx rx cx xg rg cg _ hox2 hrg hlx).mono ?_
                        rintro e V18 ⟨rfl, hb⟩
                        rw [HMX.out, HMG.out, beq_self_eq_true]
                        have hb2 := hb
                        replace hoy2 := hoy2.later hb
                        replace hrk := hrk.later hb
                        replace v29 := later hb v29
                        clear hb
                        go_wp2_with fail
                        refine (same_any xy ry cyy xk rk ck _ hoy2 hrk hly).mono ?_
                        rintro e V19 ⟨rfl, hb⟩
                        rw [HMY.out, HMK.out, beq_self_eq_true]
                        have hb3 := thru hb2 hb
                        clear hb
                        go_wp2_with fail
                        exact NormQ.mk ⟨hb3, ex_frame (by kernel_rfl)⟩
                      · rw [if_neg Bool.false_ne_true] at hcR
                        rw [if_pos rfl] at hcC
                        subst hcR
                        subst hcC
                        dsimp only
                        go_wp2_with fail
                        refine (same_any xx rx cx xg rg cg _ hox2 hrg hlx).mono ?_
                        rintro e V18 ⟨rfl, hb⟩
                        rw [HMX.out, HMG.out, beq_self_eq_true]
                        have hb2 := hb
                        replace hoy2 := hoy2.later hb
                        replace hrk := hrk.later hb
                        replace v29 := later hb v29
                        clear hb
                        go_wp2_with fail
                        refine (same_any xy ry cyy xk rk ck _ hoy2 hrk hly).mono ?_
                        rintro e V19 ⟨rfl, hb⟩
                        rw [HMY.out, HMK.out, beq_self_eq_true]
                        have hb3 := thru hb2 hb
                        clear hb
                        go_wp2_with fail
                        exact NormQ.mk ⟨hb3, ex_frame (by kernel_rfl)⟩
                    · cases p
                      · rw [if_pos rfl] at hcR
                        rw [if_neg Bool.false_ne_true] at hcC
                        subst hcR
                        subst hcC
                        dsimp only
                        go_wp2_with fail
                        refine (same_any xx rx cx xg rg cg _ hox2 hrg hlx).mono ?_
                        rintro e V18 ⟨rfl, hb⟩
                        rw [HMX.out, HMG.out, beq_self_eq_true]
                        have hb2 := hb
                        replace hoy2 := hoy2.later hb
                        replace hrk := hrk.later hb
                        replace v29 := later hb v29
                        clear hb
                        go_wp2_with fail
                        refine (same_any xy ry cyy xk rk ck _ hoy2 hrk hly).mono ?_
                        rintro e V19 ⟨rfl, hb⟩
                        rw [HMY.out, HMK.out, beq_self_eq_true]
                        have hb3 := thru hb2 hb
                        clear hb
                        go_wp2_with fail
                        exact NormQ.mk ⟨hb3, ex_frame (by kernel_rfl)⟩
                      · rw [if_pos rfl] at hcR
                        rw [if_pos rfl] at hcC
                        subst hcR
                        subst hcC
                        dsimp only
                        go_wp2_with fail
                        refine (same_any xx rx cx xg rg cg _ hox2 hrg hlx).mono ?_
                        rintro e V18 ⟨rfl, hb⟩
                        rw [HMX.out, HMG.out, beq_self_eq_true]
                        have hb2 := hb
                        replace hoy2 := hoy2.later hb
                        replace hrk := hrk.later hb
                        replace v29 := later hb v29
                        clear hb
                        go_wp2_with fail
                        refine (same_any xy ry cyy xk rk ck _ hoy2 hrk hly).mono ?_
                        rintro e V19 ⟨rfl, hb⟩
                        rw [HMY.out, HMK.out, beq_self_eq_true]
                        have hb3 := thru hb2 hb
                        clear hb
                        go_wp2_with fail
                        exact NormQ.mk ⟨hb3, ex_frame (by kernel_rfl)⟩
                  rintro a' V18 ⟨hb, u, rfl⟩
                  replace hoa := hoa.later hb
                  replace hox := hox.later hb
                  replace v27 := later hb v27
                  replace hoy := hoy.later hb
                  replace v29 := later hb v29
                  replace B5h := thru B5h hb
                  replace hBz := thru hBz hb
                  clear hb hrg hrk hlist hwas g6 c19 HMG HMK HLR HLC HCR HCC HRUN HCUT HV HP
                  refine h1 _ _ ?_
                  clear h1 K1
                  dsimp only
                  refine wp_seq_k (fun K1 h1 => ?_)
                  refine wp_cutN (fun a' w' => (Below w5.heap.size w5 w' ∧ OwnsB w5.heap.size w' xa ca M) ∧ ∃ u : Nat → Value, a' = { tmps := #[u 0, u 1, u 2, u 3, u 4, u 5, .pointer (some ⟨w.heap.size, 0, none⟩), u 7, u 8, u 9, u 10, u 11, u 12, .pointer (some ⟨b13, 0, none⟩), u 14, u 15, u 16, u 17, u 18, u 19, u 20, u 21, u 22, .slice xa M.length ca, u 24, u 25, u 26, u 27, u 28, u 29, u 30, u 31, u 32, u 33, u 34, u 35, u 36, u 37, u 38, u 39, u 40, u 41, u 42, u 43, u 44, u 45, u 46, u 47, u 48, u 49, u 50, u 51, u 52, u 53, u 54, u 55, u 56, u 57, u 58, u 59, u 60, u 61, u 62, u 63, u 64, u 65, u 66, u 67, u 68, u 69, u 70, u 71, u 72, u 73, u 74, u 75, u 76, u 77, u 78, u 79, u 80, u 81, u 82, u 83, u 84, u 85, u 86, u 87, u 88, u 89, u 90, u 91, u 92, u 93, u 94, u 95, u 96, u 97, u 98, u 99, u 100, u 101, u 102, u 103, u 104, u 105, u 106, u 107, u 108, u 109, u 110, u 111, u 112, u 113, u 114, u 115, u 116, u 117, u 118, u 119, u 120, u 121, u 122, u 123, u 124, u 125, u 126, u 127, u 128, u 129, u 130, u 131, u 132, u 133, u 134, u 135, u 136, u 137, u 138, u 139, u 140, u 141, u 142, u 143, u 144, u 145, u 146, u 147, u 148, u 149, u 150, u 151, u 152, u 153, u 154, u 155, u 156, u 157, u 158, u 159, u 160, u 161, u 162, u 163, u 164, u 165, u 166, u 167, u 168, u 169, u 170, u 171, u 172, u 173, u 174, u 175, u 176, u 177, u 178, u 179, u 180, u 181, u 182, u 183, u 184, u 185, u 186, u 187, u 188, u 189, u 190, u 191, u 192, u 193, u 194, u 195, u 196, u 197, u 198, u 199, u 200, u 201, u 202, u 203, u 204, u 205, u 206, u 207, u 208, u 209, u 210, u 211, u 212, u 213, u 214, u 215, u 216, u 217, u 218, u 219, u 220, u 221, u 222, u 223, u 224, u 225, u 226, u 227, u 228, u 229, u 230, u 231, u 232, u 233, u 234, u 235, u 236, u 237, u 238, u 239, u 240, u 241, u 242, u 243, u 244, u 245, u 246, u 247, u 248, u 249, u 250, u 251, u 252, u 253, u 254, u 255, u 256, u 257, u 258, u 259, u 260, u 261, u 262, u 263, u 264, u 265, u 266, u 267, u 268, u 269, u 270, u 271, u 272, u 273, u 274, u 275, u 276, u 277, u 278, u 279, u 280, u 281, u 282, u 283, u 284, u 285, u 286, u 287, u 288, u 289, u 290, u 291, u 292, u 293, u 294, u 295, u 296, u 297, u 298, u 299, u 300, u 301, u 302, u 303, u 304, u 305, u 306, u 307, u 308, u 309, u 310, u 311, u 312, u 313, u 314, u 315, u 316, u 317, u 318, u 319, u 320, u 321, u 322, u 323, u 324, u 325, u 326, u 327, u 328, u 329, u 330, u 331, u 332, u 333, u 334, u 335, u 336, u 337, u 338, u 339, u 340, u 341, u 342, u 343, u 344, u 345, u 346, u 347, u 348, u 349, u 350, u 351, u 352, u 353, u 354], defers := [] }) ?_ ?_
                  · have q27 : b27 < V18.heap.size := World.block_lt_of_cell? _ _ v27
                    have q29 : b29 < V18.heap.size := World.block_lt_of_cell? _ _ v29
                    have HBX : Hid (∀ r, r ∈ rx → r.l.length ≤ 9223372036854775807) := fun r hr => by have := (hox.each r hr).le_cap; omega
                    have HBY : Hid (∀ r, r ∈ ry → r.l.length ≤ 9223372036854775807) := fun r hr => by have := (hoy.each r hr).le_cap; omega
                    have HTF : Hid (TF w5.heap.size w7.heap.size V8.heap.size V18.heap.size xa xx rx ry) := ⟨H57, H78, by omega, HXA.out, HX8.out.1, HX8.out.2, fun r hr b hb => ((hoy.each r hr).low b hb).2⟩
                    have hT0 : ∀ ty, TI w5 w7.heap.size V8.heap.size V18.heap.size xa ca M xx cx rx xy cyy ry (V18.alloc (.cells #[.slice xx rx.length cx, .slice xy ry.length cyy] ty)) := fun ty => ⟨al B5h _, hoa.later (al (Below.refl _ _) _), ⟨rx, rfl, hox.later (al (Below.refl _ _) _)⟩, ⟨ry, rfl, hoy.later (al (Below.refl _ _) _)⟩, cell_new V18 _ _ _ 0, cell_new V18 _ _ _ 1⟩
                    have HT0 := Lib.hid hT0
                    clear hT0 hoa hox hoy B5h
                    go_wp2_with fail
                    obtain ⟨G, hG⟩ : ∃ b, V18.heap.size = b := ⟨_, rfl⟩
                    rw [hG] at HTF HT0 ⊢
                    go_loopw [312] (fun u312 wr => ∃ o : Nat, o ≤ 2 ∧ u312 = .int .i64 (o : Int) ∧ TI w5 w7.heap.size V8.heap.size G xa ca M xx cx rx xy cyy ry wr) (fun u312 _ => 2 - (intOf u312).toNat)
                    case atStart => exact ⟨0, by omega, rfl, HT0.out _⟩
                    case round =>
                      clear HT0
                      obtain ⟨o, ho2, rfl, hT⟩ := hrel
                      have g0c := hT.2.2.2.2.1
                      have g1c := hT.2.2.2.2.2
                      have HT := Lib.hid hT
                      clear hT
                      rcases (by omega : o = 0 ∨ o = 1 ∨ o = 2) with rfl | rfl | rfl
                      · go_wp2_with fail
                        go_loopw [319] (fun u319 wr => ∃ q : Nat, q ≤ rx.length ∧ u319 = .int .i64 (q : Int) ∧ TI w5 w7.heap.size V8.heap.size G xa ca M xx cx rx xy cyy ry wr) (fun u319 _ => rx.length - (intOf u319).toNat)
                        case atStart => exact ⟨0, by omega, rfl, HT.out.later (al (Below.refl _ _) _)⟩
                        case round =>
                          clear HT
                          obtain ⟨q, hq, rfl, hT⟩ := hrel
                          by_cases hlq : q < rx.length
                          · have e1 : decide ((q : Int) < (rx.length : Int)) = true := by simp; omega
                            have qB : (q : Int) < (rx.length : Int) := by omega
                            obtain ⟨g, hgx, hcq⟩ := hT.rowX q hlq
                            obtain ⟨⟨xq, cq, lq⟩, hrq⟩ : ∃ r, rx.getD q rw0 = r := ⟨_, rfl⟩
                            have hbq := HBX.out _ (getD_mem rx q rw0 hlq)
                            rw [hrq] at hcq hbq
                            dsimp only at hbq
                            replace hcq : wr.cell? ⟨g, q, none⟩ = some (.slice xq lq.length cq) := hcq
                            have HENC : Hid (encR (rx.getD q rw0) = .slice xq lq.length cq) := by show _ = _; rw [hrq]; rfl
                            subst hgx
                            have HT := Lib.hid hT
                            clear hrq hT
                            go_wp2_with fail
                            go_loopw [325] (fun u325 wr => ∃ i2 : Nat, i2 ≤ lq.length ∧ u325 = .int .i64 (i2 : Int) ∧ TI w5 w7.heap.size V8.heap.size G xa ca M (some ⟨g, 0, none⟩) cx rx xy cyy ry wr) (fun u325 _ => lq.length - (intOf u325).toNat)
                            case atStart => exact ⟨0, by omega, rfl, HT.out⟩
                            case round =>
                              clear HT hcq
                              obtain ⟨i2, hi2, rfl, hT⟩ := hrel
                              by_cases hli : i2 < lq.length
                              · have e2 : decide ((i2 : Int) < (lq.length : Int)) = true := by simp; omega
                                have iB : (i2 : Int) < (lq.length : Int) := by omega
                                obtain ⟨g2, v, rfl, hcv, hfv, hn⟩ := hT.incX HTF.out q hlq HENC.out i2 hli
                                have hw8 := u8_inc v
                                have HN := Lib.hid (hn (v + 1))
                                clear hn hT
                                go_wp2_with fail
                                exact ⟨⟨i2 + 1, by omega, by go_num, HN.out⟩, by simp [intOf]; omega⟩
                              · obtain rfl : i2 = lq.length := by omega
                                have HT := Lib.hid hT
                                clear hT
                                go_wp2_with fail
                                exact ⟨⟨q + 1, by omega, by go_num, HT.out⟩, by simp [intOf]; omega⟩
                          · obtain rfl : q = rx.length := by omega
                            have HT := Lib.hid hT
                            clear hT
                            go_wp2_with fail
                            exact ⟨⟨1, by omega, by go_num, HT.out⟩, by simp [intOf]⟩
                      · go_wp2_with fail
                        go_loopw [319] (fun u319 wr => ∃ q : Nat, q ≤ ry.length ∧ u319 = .int .i64 (q : Int) ∧ TI w5 w7.heap.size V8.heap.size G xa ca M xx cx rx xy cyy ry wr) (fun u319 _ => ry.length - (intOf u319).toNat)
                        case atStart => exact ⟨0, by omega, rfl, HT.out.later (al (Below.refl _ _) _)⟩
                        case round =>
                          clear HT
                          obtain ⟨q, hq, rfl, hT⟩ := hrel
                          by_cases hlq : q < ry.length
                          · have e1 : decide ((q : Int) < (ry.length : Int)) = true := by simp; omega
                            have qB : (q : Int) < (ry.length : Int) := by omega
                            obtain ⟨g, hgx, hcq⟩ := hT.rowY q hlq
                            obtain ⟨⟨xq, cq, lq⟩, hrq⟩ : ∃ r, ry.getD q rw0 = r := ⟨_, rfl⟩
                            have hbq := HBY.out _ (getD_mem ry q rw0 hlq)
                            rw [hrq] at hcq hbq
                            dsimp only at hbq
                            replace hcq : wr.cell? ⟨g, q, none⟩ = some (.slice xq lq.length cq) := hcq
                            have HENC : Hid (encR (ry.getD q rw0) = .slice xq lq.length cq) := by show _ = _; rw [hrq]; rfl
                            subst hgx
                            have HT := Lib.hid hT
                            clear hrq hT
                            go_wp2_with fail
                            go_loopw [325] (fun u325 wr => ∃ i2 : Nat, i2 ≤ lq.length ∧ u325 = .int .i64 (i2 : Int) ∧ TI w5 w7.heap.size V8.heap.size G xa ca M xx cx rx (some ⟨g, 0, none⟩) cyy ry wr) (fun u325 _ => lq.length - (intOf u325).toNat)
                            case atStart => exact ⟨0, by omega, rfl, HT.out⟩
                            case round =>
                              clear HT hcq
                              obtain ⟨i2, hi2, rfl, hT⟩ := hrel
                              by_cases hli : i2 < lq.length
                              · have e2 : decide ((i2 : Int) < (lq.length : Int)) = true := by simp; omega
                                have iB : (i2 : Int) < (lq.length : Int) := by omega
                                obtain ⟨g2, v, rfl, hcv, hfv, hn⟩ := hT.incY HTF.out q hlq HENC.out i2 hli
                                have hw8 := u8_inc v
                                have HN := Lib.hid (hn (v + 1))
                                clear hn hT
                                go_wp2_with fail
                                exact ⟨⟨i2 + 1, by omega, by go_num, HN.out⟩, by simp [intOf]; omega⟩
                              · obtain rfl : i2 = lq.length := by omega
                                have HT := Lib.hid hT
                                clear hT
                                go_wp2_with fail
                                exact ⟨⟨q + 1, by omega, by go_num, HT.out⟩, by simp [intOf]; omega⟩
                          · obtain rfl : q = ry.length := by omega
                            have HT := Lib.hid hT
                            clear hT
                            go_wp2_with fail
                            exact ⟨⟨2, by omega, by go_num, HT.out⟩, by simp [intOf]⟩
                      · have hTo := HT.out
                        go_wp2_with fail
                        exact NormQ.mk ⟨⟨hTo.1, hTo.2.1⟩, ex_frame (by kernel_rfl)⟩
                  rintro a' V20 ⟨⟨B5n, hoa2⟩, u, rfl⟩
                  clear hoa hox hoy v27 v29 B5h hBz z89 H57 H78 HX8 HXA
                  refine h1 _ _ ?_
                  clear h1 K1
                  dsimp only
                  have hM := hoa2.le_cap
                  have HO := Lib.hid hoa2
                  clear hoa2
                  go_wp2_with fail
                  go_loopw [339] (fun u339 wr => ∃ (j : Nat) (N : List UInt8), j ≤ M.length ∧ u339 = .int .i64 (j : Int) ∧ N.length = M.length ∧ OwnsB w5.heap.size wr xa ca N ∧ Below w5.heap.size w5 wr) (fun u339 _ => M.length - (intOf u339).toNat)
                  case atStart => exact ⟨0, M, by omega, rfl, rfl, HO.out, B5n⟩
                  case round =>
                    clear HO B5n
                    obtain ⟨j, N, hj, rfl, hN, hoN, hBN⟩ := hrel
                    by_cases hlt : j < M.length
                    · have d1 : decide ((j : Int) < (M.length : Int)) = true := by simp; omega
                      have jB : (j : Int) < (M.length : Int) := by omega
                      obtain ⟨g, rfl⟩ := hoN.some_of (by omega)
                      have hcj := hoN.cell j (by omega)
                      have hfj := hoN.free j
                      have hlg := (hoN.low g rfl).1
                      obtain ⟨v, hv⟩ : ∃ v, N.getD j 0 = v := ⟨_, rfl⟩
                      rw [hv] at hcj
                      have hw8 := u8_inc v
                      have HN := Lib.hid hN
                      have HON := Lib.hid hoN
                      have HLG := Lib.hid hlg
                      clear hv hN hoN hlg
                      go_wp2_with fail
                      exact ⟨⟨j + 1, N.set j (v + 1), by omega, by go_num, by rw [List.length_set]; exact HN.out, HON.out.set j (v + 1), hBN.setCell (p := ⟨g, j, none⟩) (by have := HLG.out; simp; omega) _⟩, by simp [intOf]; omega⟩
                    · obtain rfl : j = M.length := by omega
                      have g6f := later hBN H65.out
                      have c19f := later hBN H135.out
                      have hwf := HW5.out.later hBN
                      have hBf := thru HB5.out hBN
                      have HWF := Lib.hid hwf
                      clear hN hoN hlt hwf
                      go_wp2_with fail
                      refine (same_any x rs c xj rw cj _ (hs.later hBf) HWF.out hrn2).mono ?_
                      rintro e V21 ⟨rfl, hb⟩
                      rw [HWM.out, beq_self_eq_true]
                      replace hBf := thru hBf hb
                      clear hb
                      go_wp2_with fail
                      refine (awake_any _).mono ?_
                      rintro e w' ⟨rfl, hb⟩
                      go_wp2_with fail
                      go_ret
                      exact ⟨rfl, thru hBf hb⟩

end Go.Proofs.Ytgibfagnfhgelaa
