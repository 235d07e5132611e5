/- WALKS of the block layer: own. -/
import Derived.Test.YtgibfagnfhgelaaRowsB
import Derived.Test.YtgibfagnfhgelaaClone
import Derived.Test.YtgibfagnfhgelaaRegionB
import Derived.Test.YtgibfagnfhgelaaBlkA
namespace Go.Proofs.Ytgibfagnfhgelaa
open Go.RowKit

/-- own's rounds. -/
def OwnRel (rs0 : List Rw) (w : World) (b4 : Nat) (u9 : Value) (wr : World) : Prop :=
  ∃ j x c rs, j ≤ rs0.length ∧ u9 = .int .i64 (j : Int) ∧ OwnsS (b4 + 1) wr x c rs ∧ rs.map (·.l) = (rs0.map (·.l)).take j ∧ wr.cell? ⟨b4, 0, none⟩ = some (.slice x rs.length c) ∧ wr.frozen? ⟨b4, 0, none⟩ = false ∧ Below w.heap.size w wr ∧ b4 < wr.heap.size ∧ wr.cell? ⟨w.heap.size + 1, 0, none⟩ = some (.slice none 0 0) ∧ wr.frozen? ⟨w.heap.size + 1, 0, none⟩ = false
/-- A store of the call's own with these blocks. -/
def StoOf (ls : List (List UInt8)) (w : World) (e : Ending) (w' : World) : Prop := ∃ x c rs, e = .returned (.agg #[.slice x rs.length c]) ∧ OwnsS w.heap.size w' x c rs ∧ rs.map (·.l) = ls ∧ Below w.heap.size w w'
theorem lens_map {rs rs' : List Rw} (h : rs.map (·.l) = rs'.map (·.l)) : rs.length = rs'.length := by simpa using congrArg List.length h
set_option maxHeartbeats 4000000 in
theorem own_any (x0 : Option Addr) (rs0 : List Rw) (c0 : Nat) (w : World) (hs : Rws w x0 rs0) (hn : rs0.length ≤ 1000) (hl : ∀ r, r ∈ rs0 → r.l.length ≤ 100000) : Calls Try.prog 33 #[.agg #[.slice x0 rs0.length c0]] w (StoOf (rs0.map (·.l)) w) := by
  have hB := Below.refl w.heap.size w
  go_enter Try.func33, Try.ntmps33
  go_wp2_with fail
  obtain ⟨b4, hb4⟩ : ∃ b, w.heap.size + 1 + 1 = b := ⟨_, rfl⟩
  rw [hb4]
  go_loopw [9] (fun u9 wr => OwnRel rs0 w b4 u9 wr) (fun u9 _ => rs0.length - (intOf u9).toNat)
  case atStart => exact ⟨0, none, 0, [], by omega, rfl, OwnsS.nil _ _, rfl, by rw [← hb4]; go_simp, by rw [← hb4]; go_simp, al (al (al hB _) _) _, by simp <;> omega, later (al (Below.refl _ _) _) (by go_simp), (Below.frozen (al (Below.refl _ _) _) (by simp)).trans (by go_simp)⟩
  case round =>
    clear hB
    obtain ⟨j, xj, cj, rs, hj, rfl, ho, hm, c19, f19, hB, hzw, r19, g19⟩ := hrel
    have hlen : rs.length = j := by have := congrArg List.length hm; simp at this; omega
    by_cases hlt : j < rs0.length
    · have d1 : decide ((j : Int) < (rs0.length : Int)) = true := by simp; omega
      obtain ⟨b0, o0, rfl, hcj, hrj⟩ := hs.at j hlt
      have hll := hl _ (getD_mem rs0 j rw0 hlt)
      have htk : (rs0.map (·.l)).take (j + 1) = (rs0.map (·.l)).take j ++ [(rs0.getD j rw0).l] := by
        rw [List.take_succ_eq_append_getElem (by simpa using hlt), List.getD_eq_getElem?_getD, List.getElem?_eq_getElem hlt]; simp
      obtain ⟨rj, hrjv⟩ : ∃ r, rs0.getD j rw0 = r := ⟨_, rfl⟩
      rw [hrjv] at hcj hrj hll htk
      have hcw := later_lt hB (World.block_lt_of_cell? _ _ hcj) hcj
      replace hrj := hrj.later hB
      have HT := Lib.hid htk
      have hrl : rs.length ≤ 1000 := by omega
      clear hlen
      have HM := Lib.hid hm
      clear hcj htk hm hrjv
      go_wp2_with fail
      refine wp_region_schedB (B := b4) (fun X => X.cell? ⟨b4, 0, none⟩ = some (.slice xj rs.length cj) ∧ X.frozen? ⟨b4, 0, none⟩ = false ∧ OwnsS (b4 + 1) X xj cj rs ∧ Below wr.heap.size wr X ∧ b4 + 1 ≤ X.heap.size ∧ RwOk X rj) (.two [0, 2] 1 (.one [] 3 (.one [] 4 (.one [] 5 (.one [6] 7 (.done []))))) 3 (.two [] 1 (.one [] 4 (.one [] 5 (.one [6] 7 (.done [])))) 4 (.one [] 1 (.one [] 5 (.one [6] 7 (.done [])))))) (by kernel_rfl) (by kernel_rfl) (fun _ _ _ _ _ h => h) ⟨c19, f19, ho.turnB ((Turns.refl (fun _ => False) wr).drew) (fun _ _ _ e => e), (Below.refl _ _).drew, by simp <;> omega, hrj.later (Below.refl _ _).drew⟩ ?_
      clear c19 f19 ho hrj
      rintro X ⟨c19, f19, ho, ht, hzX, hrj⟩
      rw [wpSchedB]
      simp only [pick, List.map_cons, List.map_nil, Array.getD_eq_getD_getElem?, List.getElem?_toArray, List.getElem?_cons_succ, List.getElem?_cons_zero, Option.getD_some]
      repeat (first | go_big_quiet_step (fail) | quiet_step (fail))
      refine wpQuiet_nil ?_
      refine ⟨?_, ?_⟩
      · refine heavyB_want (by rfl) (fun K' hK' => ?_)
        go_simp
        refine hK' _ _ (Below.refl _ _) ?_
        clear hK' K'
        try simp only [Act.put, List.setIfInBounds_toArray, List.set_cons_zero, List.set_cons_succ]
        rw [wpSchedB]
        simp only [pick, List.map_nil, Array.getD_eq_getD_getElem?, List.getElem?_toArray, List.getElem?_cons_succ, List.getElem?_cons_zero, Option.getD_some]
        refine wpQuiet_nil ?_
        refine heavyB_want (by rfl) (fun K' hK' => ?_)
        go_simp
        refine (clone_any rj.x rj.l rj.c _ hrj.1 hll).mono ?_
        rintro e X1 ⟨xu, cu, rfl, hu0, hb⟩
        refine hK' _ _ (hb.mono (by omega)) ?_
        clear hK' K'
        have hap : ∀ r, r ∈ rs → Apart r ⟨xu, cu, rj.l⟩ := fun r hr b h1 h2 => by have h3 := ((ho.each r hr).low b h1).2; have h4 := (hu0.low b h2).1; omega
        have hu : OwnsB (b4 + 1) X1 xu cu rj.l := hu0.weaken (by omega)
        clear hu0
        replace c19 := later hb c19
        replace f19 := (Below.frozen hb (by simp <;> omega)).trans f19
        replace ho := ho.later hb
        replace ht := thru ht hb
        have hz1 := hb.size
        replace hzX : b4 + 1 ≤ X1.heap.size := by omega
        clear hb hz1 hrj
        try simp only [Act.put, List.setIfInBounds_toArray, List.set_cons_zero, List.set_cons_succ]
        rw [wpSchedB]
        simp only [pick, List.map_nil, Array.getD_eq_getD_getElem?, List.getElem?_toArray, List.getElem?_cons_succ, List.getElem?_cons_zero, Option.getD_some]
        refine wpQuiet_nil ?_
        refine heavyB_want (by rfl) (fun K' hK' => ?_)
        go_simp
        refine hK' _ _ ((Below.refl _ _).alloc (by omega) _) ?_
        clear hK' K'
        have hq1 := al (Below.refl _ X1) (.cells #[.slice xu rj.l.length cu] 25)
        have ny : (X1.alloc (.cells #[.slice xu rj.l.length cu] 25)).cell? ⟨X1.heap.size, 0, none⟩ = some (.slice xu rj.l.length cu) := by go_simp
        replace c19 := later hq1 c19
        replace f19 := (Below.frozen hq1 (by simp <;> omega)).trans f19
        replace ho := ho.later hq1
        replace hu := hu.later hq1
        replace ht := thru ht hq1
        have hzy : X1.heap.size < (X1.alloc (.cells #[.slice xu rj.l.length cu] 25)).heap.size := by simp
        obtain ⟨X2, hX2⟩ : ∃ Z : World, X1.alloc (.cells #[.slice xu rj.l.length cu] 25) = Z := ⟨_, rfl⟩
        rw [hX2] at ny c19 f19 ho hu ht hzy
        rw [hX2]
        clear hX2 hq1
        try simp only [Act.put, List.setIfInBounds_toArray, List.set_cons_zero, List.set_cons_succ]
        rw [wpSchedB]
        simp only [pick, List.map_nil, Array.getD_eq_getD_getElem?, List.getElem?_toArray, List.getElem?_cons_succ, List.getElem?_cons_zero, Option.getD_some]
        refine wpQuiet_nil ?_
        refine heavyB_want (by rfl) (fun K' hK' => ?_)
        refine wp_appR _ _ rfl (B := b4 + 1) (rs := rs) (cap := cj) (xa := xj) ho.row rfl (ad := ⟨X1.heap.size, 0, none⟩) (u := ⟨xu, cu, rj.l⟩) rfl ny (by omega) (by omega) (fun x' c' X3 h1 h2 h3 => hK' _ _ (h2.mono (by omega)) ?_)
        clear hK' K'
        replace c19 := later_lt h2 (a := ⟨b4, 0, none⟩) (by simp <;> omega) c19
        replace f19 := (h2.frozen (p := ⟨b4, 0, none⟩) (by simp <;> omega)).trans f19
        have ht3 : Below (b4 + 1) wr X3 := (ht.mono (by omega)).trans h2
        have ho3 := ho.app h1 h3 hu hap
        clear ho hu h2 h3 ny ht
        try simp only [Act.put, List.setIfInBounds_toArray, List.set_cons_zero, List.set_cons_succ]
        rw [wpSchedB]
        simp only [pick, List.map_cons, List.map_nil, Array.getD_eq_getD_getElem?, List.getElem?_toArray, List.getElem?_cons_succ, List.getElem?_cons_zero, Option.getD_some]
        repeat (first | go_big_quiet_step (fail) | quiet_step (fail))
        refine wpQuiet_nil ?_
        refine heavyB_want (by rfl) (fun K' hK' => ?_)
        go_simp
        refine hK' _ _ ((Below.refl _ _).setCell (p := ⟨b4, 0, none⟩) (Nat.le_refl _) _) ?_
        clear hK' K'
        try simp only [Act.put, List.setIfInBounds_toArray, List.set_cons_zero, List.set_cons_succ]
        rw [wpSchedB]
        simp only [List.map_nil]
        refine wpQuiet_nil ?_
        have hz3 : b4 < X3.heap.size := by have := ht3.size; omega
        have hB3 : Below w.heap.size w X3 := hB.trans (ht3.mono (by omega))
        have r19 := later_lt ht3 (a := ⟨w.heap.size + 1, 0, none⟩) (by simp <;> omega) r19
        have g19 := (ht3.frozen (p := ⟨w.heap.size + 1, 0, none⟩) (by simp <;> omega)).trans g19
        clear ht3
        go_wp2_with fail
        exact ⟨⟨j + 1, x', c', rs ++ [⟨xu, cu, rj.l⟩], by omega, by go_num, ho3.turnB ((Turns.refl (fun b => b = b4) X3).setCell (p := ⟨b4, 0, none⟩) (fun _ => rfl) _) (fun b hb _ e => by have e' : b = b4 := e; omega), by rw [HT.out, List.map_append, HM.out]; rfl, by rw [World.cell?_setCell_same' _ _ _ (by rw [c19]; rfl)]; simp, by rw [World.frozen?_setCell]; exact f19, hB3.setCell (p := ⟨b4, 0, none⟩) (by simp <;> omega) _, by simp <;> omega, by go_simp, by go_simp⟩, by simp [intOf]; omega⟩
      · refine heavyB_want (by rfl) (fun K' hK' => ?_)
        go_simp
        refine (clone_any rj.x rj.l rj.c _ hrj.1 hll).mono ?_
        rintro e X1 ⟨xu, cu, rfl, hu0, hb⟩
        refine hK' _ _ (hb.mono (by omega)) ?_
        clear hK' K'
        have hap : ∀ r, r ∈ rs → Apart r ⟨xu, cu, rj.l⟩ := fun r hr b h1 h2 => by have h3 := ((ho.each r hr).low b h1).2; have h4 := (hu0.low b h2).1; omega
        have hu : OwnsB (b4 + 1) X1 xu cu rj.l := hu0.weaken (by omega)
        clear hu0
        replace c19 := later hb c19
        replace f19 := (Below.frozen hb (by simp <;> omega)).trans f19
        replace ho := ho.later hb
        replace ht := thru ht hb
        have hz1 := hb.size
        replace hzX : b4 + 1 ≤ X1.heap.size := by omega
        clear hb hz1 hrj
        try simp only [Act.put, List.setIfInBounds_toArray, List.set_cons_zero, List.set_cons_succ]
        rw [wpSchedB]
        simp only [pick, List.map_nil, Array.getD_eq_getD_getElem?, List.getElem?_toArray, List.getElem?_cons_succ, List.getElem?_cons_zero, Option.getD_some]
        refine wpQuiet_nil ?_
        refine ⟨?_, ?_⟩
        · refine heavyB_want (by rfl) (fun K' hK' => ?_)
          go_simp
          refine hK' _ _ (Below.refl _ _) ?_
          clear hK' K'
          try simp only [Act.put, List.setIfInBounds_toArray, List.set_cons_zero, List.set_cons_succ]
          rw [wpSchedB]
          simp only [pick, List.map_nil, Array.getD_eq_getD_getElem?, List.getElem?_toArray, List.getElem?_cons_succ, List.getElem?_cons_zero, Option.getD_some]
          refine wpQuiet_nil ?_
          refine heavyB_want (by rfl) (fun K' hK' => ?_)
          go_simp
          refine hK' _ _ ((Below.refl _ _).alloc (by omega) _) ?_
          clear hK' K'
          have hq1 := al (Below.refl _ X1) (.cells #[.slice xu rj.l.length cu] 25)
          have ny : (X1.alloc (.cells #[.slice xu rj.l.length cu] 25)).cell? ⟨X1.heap.size, 0, none⟩ = some (.slice xu rj.l.length cu) := by go_simp
          replace c19 := later hq1 c19
          replace f19 := (Below.frozen hq1 (by simp <;> omega)).trans f19
          replace ho := ho.later hq1
          replace hu := hu.later hq1
          replace ht := thru ht hq1
          have hzy : X1.heap.size < (X1.alloc (.cells #[.slice xu rj.l.length cu] 25)).heap.size := by simp
          obtain ⟨X2, hX2⟩ : ∃ Z : World, X1.alloc (.cells #[.slice xu rj.l.length cu] 25) = Z := ⟨_, rfl⟩
          rw [hX2] at ny c19 f19 ho hu ht hzy
          rw [hX2]
          clear hX2 hq1
          try simp only [Act.put, List.setIfInBounds_toArray, List.set_cons_zero, List.set_cons_succ]
          rw [wpSchedB]
          simp only [pick, List.map_nil, Array.getD_eq_getD_getElem?, List.getElem?_toArray, List.getElem?_cons_succ, List.getElem?_cons_zero, Option.getD_some]
          refine wpQuiet_nil ?_
          refine heavyB_want (by rfl) (fun K' hK' => ?_)
          refine wp_appR _ _ rfl (B := b4 + 1) (rs := rs) (cap := cj) (xa := xj) ho.row rfl (ad := ⟨X1.heap.size, 0, none⟩) (u := ⟨xu, cu, rj.l⟩) rfl ny (by omega) (by omega) (fun x' c' X3 h1 h2 h3 => hK' _ _ (h2.mono (by omega)) ?_)
          clear hK' K'
          replace c19 := later_lt h2 (a := ⟨b4, 0, none⟩) (by simp <;> omega) c19
          replace f19 := (h2.frozen (p := ⟨b4, 0, none⟩) (by simp <;> omega)).trans f19
          have ht3 : Below (b4 + 1) wr X3 := (ht.mono (by omega)).trans h2
          have ho3 := ho.app h1 h3 hu hap
          clear ho hu h2 h3 ny ht
          try simp only [Act.put, List.setIfInBounds_toArray, List.set_cons_zero, List.set_cons_succ]
          rw [wpSchedB]
          simp only [pick, List.map_cons, List.map_nil, Array.getD_eq_getD_getElem?, List.getElem?_toArray, List.getElem?_cons_succ, List.getElem?_cons_zero, Option.getD_some]
          repeat (first | go_big_quiet_step (fail) | quiet_step (fail))
          refine wpQuiet_nil ?_
          refine heavyB_want (by rfl) (fun K' hK' => ?_)
          go_simp
          refine hK' _ _ ((Below.refl _ _).setCell (p := ⟨b4, 0, none⟩) (Nat.le_refl _) _) ?_
          clear hK' K'
          try simp only [Act.put, List.setIfInBounds_toArray, List.set_cons_zero, List.set_cons_succ]
          rw [wpSchedB]
          simp only [List.map_nil]
          refine wpQuiet_nil ?_
          have hz3 : b4 < X3.heap.size := by have := ht3.size; omega
          have hB3 : Below w.heap.size w X3 := hB.trans (ht3.mono (by omega))
          have r19 := later_lt ht3 (a := ⟨w.heap.size + 1, 0, none⟩) (by simp <;> omega) r19
          have g19 := (ht3.frozen (p := ⟨w.heap.size + 1, 0, none⟩) (by simp <;> omega)).trans g19
          clear ht3
          go_wp2_with fail
          exact ⟨⟨j + 1, x', c', rs ++ [⟨xu, cu, rj.l⟩], by omega, by go_num, ho3.turnB ((Turns.refl (fun b => b = b4) X3).setCell (p := ⟨b4, 0, none⟩) (fun _ => rfl) _) (fun b hb _ e => by have e' : b = b4 := e; omega), by rw [HT.out, List.map_append, HM.out]; rfl, by rw [World.cell?_setCell_same' _ _ _ (by rw [c19]; rfl)]; simp, by rw [World.frozen?_setCell]; exact f19, hB3.setCell (p := ⟨b4, 0, none⟩) (by simp <;> omega) _, by simp <;> omega, by go_simp, by go_simp⟩, by simp [intOf]; omega⟩
        · refine heavyB_want (by rfl) (fun K' hK' => ?_)
          go_simp
          refine hK' _ _ ((Below.refl _ _).alloc (by omega) _) ?_
          clear hK' K'
          have hq1 := al (Below.refl _ X1) (.cells #[.slice xu rj.l.length cu] 25)
          have ny : (X1.alloc (.cells #[.slice xu rj.l.length cu] 25)).cell? ⟨X1.heap.size, 0, none⟩ = some (.slice xu rj.l.length cu) := by go_simp
          replace c19 := later hq1 c19
          replace f19 := (Below.frozen hq1 (by simp <;> omega)).trans f19
          replace ho := ho.later hq1
          replace hu := hu.later hq1
          replace ht := thru ht hq1
          have hzy : X1.heap.size < (X1.alloc (.cells #[.slice xu rj.l.length cu] 25)).heap.size := by simp
          obtain ⟨X2, hX2⟩ : ∃ Z : World, X1.alloc (.cells #[.slice xu rj.l.length cu] 25) = Z := ⟨_, rfl⟩
          rw [hX2] at ny c19 f19 ho hu ht hzy
          rw [hX2]
          clear hX2 hq1
          try simp only [Act.put, List.setIfInBounds_toArray, List.set_cons_zero, List.set_cons_succ]
          rw [wpSchedB]
          simp only [pick, List.map_nil, Array.getD_eq_getD_getElem?, List.getElem?_toArray, List.getElem?_cons_succ, List.getElem?_cons_zero, Option.getD_some]
          refine wpQuiet_nil ?_
          refine heavyB_want (by rfl) (fun K' hK' => ?_)
          go_simp
          refine hK' _ _ (Below.refl _ _) ?_
          clear hK' K'
          try simp only [Act.put, List.setIfInBounds_toArray, List.set_cons_zero, List.set_cons_succ]
          rw [wpSchedB]
          simp only [pick, List.map_nil, Array.getD_eq_getD_getElem?, List.getElem?_toArray, List.getElem?_cons_succ, List.getElem?_cons_zero, Option.getD_some]
          refine wpQuiet_nil ?_
          refine heavyB_want (by rfl) (fun K' hK' => ?_)
          refine wp_appR _ _ rfl (B := b4 + 1) (rs := rs) (cap := cj) (xa := xj) ho.row rfl (ad := ⟨X1.heap.size, 0, none⟩) (u := ⟨xu, cu, rj.l⟩) rfl ny (by omega) (by omega) (fun x' c' X3 h1 h2 h3 => hK' _ _ (h2.mono (by omega)) ?_)
          clear hK' K'
          replace c19 := later_lt h2 (a := ⟨b4, 0, none⟩) (by simp <;> omega) c19
          replace f19 := (h2.frozen (p := ⟨b4, 0, none⟩) (by simp <;> omega)).trans f19
          have ht3 : Below (b4 + 1) wr X3 := (ht.mono (by omega)).trans h2
          have ho3 := ho.app h1 h3 hu hap
          clear ho hu h2 h3 ny ht
          try simp only [Act.put, List.setIfInBounds_toArray, List.set_cons_zero, List.set_cons_succ]
          rw [wpSchedB]
          simp only [pick, List.map_cons, List.map_nil, Array.getD_eq_getD_getElem?, List.getElem?_toArray, List.getElem?_cons_succ, List.getElem?_cons_zero, Option.getD_some]
          repeat (first | go_big_quiet_step (fail) | quiet_step (fail))
          refine wpQuiet_nil ?_
          refine heavyB_want (by rfl) (fun K' hK' => ?_)
          go_simp
          refine hK' _ _ ((Below.refl _ _).setCell (p := ⟨b4, 0, none⟩) (Nat.le_refl _) _) ?_
          clear hK' K'
          try simp only [Act.put, List.setIfInBounds_toArray, List.set_cons_zero, List.set_cons_succ]
          rw [wpSchedB]
          simp only [List.map_nil]
          refine wpQuiet_nil ?_
          have hz3 : b4 < X3.heap.size := by have := ht3.size; omega
          have hB3 : Below w.heap.size w X3 := hB.trans (ht3.mono (by omega))
          have r19 := later_lt ht3 (a := ⟨w.heap.size + 1, 0, none⟩) (by simp <;> omega) r19
          have g19 := (ht3.frozen (p := ⟨w.heap.size + 1, 0, none⟩) (by simp <;> omega)).trans g19
          clear ht3
          go_wp2_with fail
          exact ⟨⟨j + 1, x', c', rs ++ [⟨xu, cu, rj.l⟩], by omega, by go_num, ho3.turnB ((Turns.refl (fun b => b = b4) X3).setCell (p := ⟨b4, 0, none⟩) (fun _ => rfl) _) (fun b hb _ e => by have e' : b = b4 := e; omega), by rw [HT.out, List.map_append, HM.out]; rfl, by rw [World.cell?_setCell_same' _ _ _ (by rw [c19]; rfl)]; simp, by rw [World.frozen?_setCell]; exact f19, hB3.setCell (p := ⟨b4, 0, none⟩) (by simp <;> omega) _, by simp <;> omega, by go_simp, by go_simp⟩, by simp [intOf]; omega⟩
    · obtain rfl : j = rs0.length := by omega
      have HM : Hid (rs.map (·.l) = rs0.map (·.l)) := by show _ = _; rw [hm, List.take_of_length_le (by simp)]
      clear hm
      rw [hlen] at c19
      go_wp2_with fail
      have er : (wr.setCell ⟨w.heap.size + 1, 0, none⟩ (.slice xj rs0.length cj)).cell? ⟨w.heap.size + 1, 0, none⟩ = some (.slice xj rs0.length cj) := World.cell?_setCell_same' _ _ _ (by rw [r19]; rfl)
      refine bodyPost_ret (v := .agg #[.slice xj rs0.length cj]) (by simp [results, Try.results33, go_sem, er]) rfl ⟨xj, cj, rs, by rw [hlen], (ho.weaken (by omega)).turn ((Turns.refl (fun b => b = w.heap.size + 1) wr).setCell (p := ⟨w.heap.size + 1, 0, none⟩) (fun _ => rfl) _) (fun b hb e => by have h0 := (ho.row.low b hb).1; have e' : b = w.heap.size + 1 := e; omega) (fun r hr b hb e => by have h0 := ((ho.each r hr).low b hb).1; have e' : b = w.heap.size + 1 := e; omega), HM.out, hB.setCell (p := ⟨w.heap.size + 1, 0, none⟩) (by simp <;> omega) _⟩

end Go.Proofs.Ytgibfagnfhgelaa
