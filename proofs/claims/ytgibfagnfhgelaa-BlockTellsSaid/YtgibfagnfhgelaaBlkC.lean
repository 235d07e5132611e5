/- WALKS of the block layer: New. -/
import Derived.Test.YtgibfagnfhgelaaBlkB
namespace Go.Proofs.Ytgibfagnfhgelaa
open Go.RowKit

def NewB (B : Nat) (w : World) (r : Rw) : Prop := ∃ g, r = ⟨some ⟨g, 0, none⟩, 54, erasedL⟩ ∧ B ≤ g ∧ Bts w (some ⟨g, 0, none⟩) erasedL ∧ ∃ k, w.shape? g = some (75, k)
theorem shape_lt {w : World} {r : Nat} {p : TypeId × Nat} (hs : w.shape? r = some p) : r < w.heap.size := by
  unfold World.shape? at hs
  cases hq : w.heap[r]? with
  | none => rw [hq] at hs; cases hs
  | some ob => exact (Array.getElem?_eq_some_iff.1 hq).1
theorem NewB.turn {B : Nat} {w w' : World} {r : Rw} {T : Nat → Prop} (h : NewB B w r) (ht : Turns T w w') (hT : ∀ b, RowOf r.x b → ¬ T b) : NewB B w' r := by
  obtain ⟨g, rfl, hg, hbt, k, hk⟩ := h
  exact ⟨g, rfl, hg, hbt.turn ht (fun a ha => by cases ha; exact hT g rfl), k, shape_turn ht (hT g rfl) hk⟩
theorem NewB.low {B : Nat} {w : World} {r : Rw} (h : NewB B w r) : ∀ b, RowOf r.x b → B ≤ b ∧ b < w.heap.size := by
  obtain ⟨g, rfl, hg, _, k, hk⟩ := h
  intro b hb
  cases hb
  exact ⟨hg, shape_lt hk⟩
theorem NewB.later {B : Nat} {w w' : World} {r : Rw} (h : NewB B w r) (hb : Below w.heap.size w w') : NewB B w' r := h.turn (Turns.of_below hb (Nat.le_refl _)) (fun _ _ h => h)
theorem NewB.rwOk {B : Nat} {w : World} {r : Rw} (h : NewB B w r) : RwOk w r := by
  obtain ⟨g, rfl, _, hb, _⟩ := h
  exact ⟨hb, fun h => by simp at h, show erasedL.length ≤ 54 by decide, show 54 ≤ 9223372036854775807 by decide⟩
theorem OwnsR.apartN {B B' : Nat} {w : World} {x : Option Addr} {cap : Nat} {rs : List Rw} {r : Rw} (h : OwnsR B w x cap rs) (k : NewB B' w r) : ∀ b, RowOf x b → ¬ RowOf r.x b := by
  intro b hb hy
  obtain ⟨g, rfl, _, _, k, hk⟩ := k
  cases hy
  rcases h.2 with ⟨hv, _⟩ | ⟨g2, cap', cur, hv, _, hg, _⟩
  · simp only [Value.slice.injEq] at hv
    rw [hv.1] at hb; cases hb
  · simp only [Value.slice.injEq] at hv
    rw [hv.1] at hb; cases hb
    unfold World.shape? at hk
    rw [hg] at hk
    simp at hk
/-- A row of erased blocks, all new. -/
structure OwnsN (B : Nat) (w : World) (x : Option Addr) (cap : Nat) (rs : List Rw) : Prop where
  row : OwnsR B w x cap rs
  each : ∀ r, r ∈ rs → NewB B w r
theorem OwnsN.turnB {B : Nat} {w w' : World} {x : Option Addr} {cap : Nat} {rs : List Rw} {T : Nat → Prop} (h : OwnsN B w x cap rs) (ht : Turns T w w') (hT : ∀ b, B ≤ b → b < w.heap.size → ¬ T b) : OwnsN B w' x cap rs :=
  ⟨h.row.turn ht (fun b hb => hT b (h.row.low b hb).1 (h.row.low b hb).2), fun r hr => (h.each r hr).turn ht (fun b hb => hT b ((h.each r hr).low b hb).1 ((h.each r hr).low b hb).2)⟩
theorem OwnsN.later {B : Nat} {w w' : World} {x : Option Addr} {cap : Nat} {rs : List Rw} (h : OwnsN B w x cap rs) (hb : Below w.heap.size w w') : OwnsN B w' x cap rs :=
  h.turnB (Turns.of_below hb (Nat.le_refl _)) (fun _ _ _ h => h)
theorem OwnsN.rws {B : Nat} {w : World} {x : Option Addr} {cap : Nat} {rs : List Rw} (h : OwnsN B w x cap rs) : Rws w x rs := ⟨h.row.cellsR, fun r hr => (h.each r hr).rwOk⟩
theorem OwnsN.app {B : Nat} {w w' : World} {xa x' : Option Addr} {cap cap' : Nat} {rs : List Rw} {u : Rw} (h : OwnsN B w xa cap rs) (h1 : OwnsR B w' x' cap' (rs ++ [u])) (ht : Turns (RowOf xa) w w') (hu : NewB B w u) : OwnsN B w' x' cap' (rs ++ [u]) := by
  refine ⟨h1, fun r hr => ?_⟩
  rcases List.mem_append.1 hr with hr | hr
  · exact (h.each r hr).turn ht (fun b hb hx => h.row.apartN (h.each r hr) b hx hb)
  · obtain rfl : r = u := by simpa using hr
    exact hu.turn ht (fun b hb hx => h.row.apartN hu b hx hb)
theorem OwnsN.ls {B : Nat} {w : World} {x : Option Addr} {cap : Nat} {rs : List Rw} (h : OwnsN B w x cap rs) : rs.map (·.l) = List.replicate rs.length erasedL := by
  rw [List.eq_replicate_iff]
  refine ⟨by simp, fun l hl => ?_⟩
  obtain ⟨r, hr, rfl⟩ := List.mem_map.1 hl
  obtain ⟨g, rfl, _⟩ := h.each r hr
  rfl
def NewRel (n : Nat) (w : World) (b4 : Nat) (u13 : Value) (wr : World) : Prop :=
  ∃ rs x c, rs.length ≤ n ∧ u13 = .int .i64 (rs.length : Int) ∧ OwnsN (b4 + 1) wr x c rs ∧ wr.cell? ⟨b4, 0, none⟩ = some (.slice x rs.length c) ∧ wr.frozen? ⟨b4, 0, none⟩ = false ∧ Below w.heap.size w wr ∧ b4 < wr.heap.size ∧ wr.cell? ⟨w.heap.size, 0, none⟩ = some (.slice none 0 0) ∧ wr.frozen? ⟨w.heap.size, 0, none⟩ = false
def NewOf (n : Nat) (w : World) (e : Ending) (w' : World) : Prop := ∃ x c rs, e = .returned (.tuple #[.agg #[.slice x rs.length c], .int .i64 0]) ∧ rs.length = n ∧ OwnsN w.heap.size w' x c rs ∧ Below w.heap.size w w'
set_option maxHeartbeats 1000000 in
theorem new_no (n : Int) (w : World) (hn : n < 1 ∨ 64 < n) : Calls Try.prog 11 #[.int .i64 n] w fun e w' => e = .returned (.tuple #[.agg #[.slice none 0 0], .int .i64 2]) ∧ Below w.heap.size w w' := by
  have hB := Below.refl w.heap.size w
  by_cases h1 : n < 1
  · have d1 : decide (n < 1) = true := decide_eq_true h1
    go_enter Try.func11, Try.ntmps11
    go_wp2_with fail
    exact bodyPost_ret (v := .tuple #[.agg #[.slice none 0 0], .int .i64 2]) (by simp [results, Try.results11, go_sem]) rfl ⟨rfl, al hB _⟩
  · have d1 : decide (n < 1) = false := decide_eq_false h1
    have d2 : decide (64 < n) = true := decide_eq_true (by omega)
    go_enter Try.func11, Try.ntmps11
    go_wp2_with fail
    exact bodyPost_ret (v := .tuple #[.agg #[.slice none 0 0], .int .i64 2]) (by simp [results, Try.results11, go_sem]) rfl ⟨rfl, al hB _⟩
set_option maxHeartbeats 4000000 in
theorem new_yes (n : Nat) (w : World) (hn : 1 ≤ n ∧ n ≤ 64) : Calls Try.prog 11 #[.int .i64 (n : Int)] w (NewOf n w) := by
  have hB := Below.refl w.heap.size w
  have d1 : decide ((n : Int) < 1) = false := decide_eq_false (by omega)
  have d2 : decide (64 < (n : Int)) = false := decide_eq_false (by omega)
  have d1n : decide (n < 1) = false := decide_eq_false (by omega)
  have d2n : decide (64 < n) = false := decide_eq_false (by omega)
  go_enter Try.func11, Try.ntmps11
  go_wp2_with fail
  obtain ⟨b4, hb4⟩ : ∃ b, w.heap.size + 1 = b := ⟨_, rfl⟩
  rw [hb4]
  go_loopw [13] (fun u13 wr => NewRel n w b4 u13 wr) (fun u13 _ => n - (intOf u13).toNat)
  case atStart => exact ⟨[], none, 0, by simp, rfl, ⟨OwnsR.nil _ _, fun r hr => by simp at hr⟩, by rw [← hb4]; go_simp, by rw [← hb4]; go_simp, al (al hB _) _, by simp <;> omega, by go_simp, by go_simp⟩
  case round =>
    clear hB d1 d2 d1n d2n
    obtain ⟨rs, xj, cj, hj, rfl, ho, c19, f19, hB, hzw, r19, g19⟩ := hrel
    by_cases hlt : rs.length < n
    · have d1 : decide ((rs.length : Int) < (n : Int)) = true := by simp; omega
      have hrl : rs.length ≤ 1000 := by omega
      go_wp2_with fail
      refine wp_region_schedB (B := b4) (fun X => X.cell? ⟨b4, 0, none⟩ = some (.slice xj rs.length cj) ∧ X.frozen? ⟨b4, 0, none⟩ = false ∧ OwnsN (b4 + 1) X xj cj rs ∧ Below wr.heap.size wr X ∧ b4 + 1 ≤ X.heap.size) (.two [0] 1 (.one [] 2 (.one [] 3 (.one [] 4 (.one [5] 6 (.done []))))) 2 (.two [] 1 (.one [] 3 (.one [] 4 (.one [5] 6 (.done [])))) 3 (.one [] 1 (.one [] 4 (.one [5] 6 (.done [])))))) (by kernel_rfl) (by kernel_rfl) (fun _ _ _ _ _ h => h) ⟨c19, f19, ho.turnB ((Turns.refl (fun _ => False) wr).drew) (fun _ _ _ e => e), (Below.refl _ _).drew, by simp <;> omega⟩ ?_
      clear c19 f19 ho
      rintro X ⟨c19, f19, ho, ht, hzX⟩
      rw [wpSchedB]
      simp only [pick, List.map_cons, List.map_nil, Array.getD_eq_getD_getElem?, List.getElem?_toArray, List.getElem?_cons_succ, List.getElem?_cons_zero, Option.getD_some]
      repeat (first | go_big_quiet_step (fail) | quiet_step (fail))
      refine wpQuiet_nil ?_
      refine ⟨?_, ?_⟩
      · refine heavyB_want (by rfl) (fun K' hK' => ?_)
        go_simp
        refine hK' _ _ (Below.refl _ _) ?_
        clear hK' K'
        try simp only [Act.put, List.setIfInBounds_toArray, List.set_cons_zero, List.set_cons_succ]
        rw [wpSchedB]
        simp only [pick, List.map_nil, Array.getD_eq_getD_getElem?, List.getElem?_toArray, List.getElem?_cons_succ, List.getElem?_cons_zero, Option.getD_some]
        refine wpQuiet_nil ?_
        refine heavyB_want (by rfl) (fun K' hK' => ?_)
        go_simp
        refine (erased_any _).mono ?_
        rintro e X1 ⟨g, rfl, hg, hgz, hbt, hsh, hb⟩
        refine hK' _ _ (hb.mono (by omega)) ?_
        clear hK' K'
        have hu : NewB (b4 + 1) X1 ⟨some ⟨g, 0, none⟩, 54, erasedL⟩ := ⟨g, rfl, by omega, hbt, hsh⟩
        clear hbt hsh
        replace c19 := later hb c19
        replace f19 := (Below.frozen hb (by simp <;> omega)).trans f19
        replace ho := ho.later hb
        replace ht := thru ht hb
        have hz1 := hb.size
        replace hzX : b4 + 1 ≤ X1.heap.size := by omega
        clear hb hz1 
        try simp only [Act.put, List.setIfInBounds_toArray, List.set_cons_zero, List.set_cons_succ]
        rw [wpSchedB]
        simp only [pick, List.map_nil, Array.getD_eq_getD_getElem?, List.getElem?_toArray, List.getElem?_cons_succ, List.getElem?_cons_zero, Option.getD_some]
        refine wpQuiet_nil ?_
        refine heavyB_want (by rfl) (fun K' hK' => ?_)
        go_simp
        refine hK' _ _ ((Below.refl _ _).alloc (by omega) _) ?_
        clear hK' K'
        have hq1 := al (Below.refl _ X1) (.cells #[.slice (some ⟨g, 0, none⟩) 54 54] 25)
        have ny : (X1.alloc (.cells #[.slice (some ⟨g, 0, none⟩) 54 54] 25)).cell? ⟨X1.heap.size, 0, none⟩ = some (.slice (some ⟨g, 0, none⟩) 54 54) := by go_simp
        replace c19 := later hq1 c19
        replace f19 := (Below.frozen hq1 (by simp <;> omega)).trans f19
        replace ho := ho.later hq1
        replace hu := hu.later hq1
        replace ht := thru ht hq1
        have hzy : X1.heap.size < (X1.alloc (.cells #[.slice (some ⟨g, 0, none⟩) 54 54] 25)).heap.size := by simp
        obtain ⟨X2, hX2⟩ : ∃ Z : World, X1.alloc (.cells #[.slice (some ⟨g, 0, none⟩) 54 54] 25) = Z := ⟨_, rfl⟩
        rw [hX2] at ny c19 f19 ho hu ht hzy
        rw [hX2]
        clear hX2 hq1
        try simp only [Act.put, List.setIfInBounds_toArray, List.set_cons_zero, List.set_cons_succ]
        rw [wpSchedB]
        simp only [pick, List.map_nil, Array.getD_eq_getD_getElem?, List.getElem?_toArray, List.getElem?_cons_succ, List.getElem?_cons_zero, Option.getD_some]
        refine wpQuiet_nil ?_
        refine heavyB_want (by rfl) (fun K' hK' => ?_)
        refine wp_appR _ _ rfl (B := b4 + 1) (rs := rs) (cap := cj) (xa := xj) ho.row rfl (ad := ⟨X1.heap.size, 0, none⟩) (u := ⟨some ⟨g, 0, none⟩, 54, erasedL⟩) rfl ny (by omega) (by omega) (fun x' c' X3 h1 h2 h3 => hK' _ _ (h2.mono (by omega)) ?_)
        clear hK' K'
        replace c19 := later_lt h2 (a := ⟨b4, 0, none⟩) (by simp <;> omega) c19
        replace f19 := (h2.frozen (p := ⟨b4, 0, none⟩) (by simp <;> omega)).trans f19
        have ht3 : Below (b4 + 1) wr X3 := (ht.mono (by omega)).trans h2
        have ho3 := ho.app h1 h3 hu
        have hlen1 : ((rs ++ [⟨some ⟨g, 0, none⟩, 54, erasedL⟩] : List Rw).length : Int) = (rs.length : Int) + 1 := by simp
        clear ho hu h2 h3 ny ht
        try simp only [Act.put, List.setIfInBounds_toArray, List.set_cons_zero, List.set_cons_succ]
        rw [wpSchedB]
        simp only [pick, List.map_cons, List.map_nil, Array.getD_eq_getD_getElem?, List.getElem?_toArray, List.getElem?_cons_succ, List.getElem?_cons_zero, Option.getD_some]
        repeat (first | go_big_quiet_step (fail) | quiet_step (fail))
        refine wpQuiet_nil ?_
        refine heavyB_want (by rfl) (fun K' hK' => ?_)
        go_simp
        refine hK' _ _ ((Below.refl _ _).setCell (p := ⟨b4, 0, none⟩) (Nat.le_refl _) _) ?_
        clear hK' K'
        try simp only [Act.put, List.setIfInBounds_toArray, List.set_cons_zero, List.set_cons_succ]
        rw [wpSchedB]
        simp only [List.map_nil]
        refine wpQuiet_nil ?_
        have hz3 : b4 < X3.heap.size := by have := ht3.size; omega
        have hB3 : Below w.heap.size w X3 := hB.trans (ht3.mono (by omega))
        have r19 := later_lt ht3 (a := ⟨w.heap.size, 0, none⟩) (by simp <;> omega) r19
        have g19 := (ht3.frozen (p := ⟨w.heap.size, 0, none⟩) (by simp <;> omega)).trans g19
        clear ht3
        go_wp2_with fail
        exact ⟨⟨rs ++ [⟨some ⟨g, 0, none⟩, 54, erasedL⟩], x', c', by simp; omega, by rw [hlen1], ho3.turnB ((Turns.refl (fun b => b = b4) X3).setCell (p := ⟨b4, 0, none⟩) (fun _ => rfl) _) (fun b hb _ e => by have e' : b = b4 := e; omega), by rw [World.cell?_setCell_same' _ _ _ (by rw [c19]; rfl)]; simp, by rw [World.frozen?_setCell]; exact f19, hB3.setCell (p := ⟨b4, 0, none⟩) (by simp <;> omega) _, by simp <;> omega, by go_simp, by go_simp⟩, by simp [intOf]; omega⟩
      · refine heavyB_want (by rfl) (fun K' hK' => ?_)
        go_simp
        refine (erased_any _).mono ?_
        rintro e X1 ⟨g, rfl, hg, hgz, hbt, hsh, hb⟩
        refine hK' _ _ (hb.mono (by omega)) ?_
        clear hK' K'
        have hu : NewB (b4 + 1) X1 ⟨some ⟨g, 0, none⟩, 54, erasedL⟩ := ⟨g, rfl, by omega, hbt, hsh⟩
        clear hbt hsh
        replace c19 := later hb c19
        replace f19 := (Below.frozen hb (by simp <;> omega)).trans f19
        replace ho := ho.later hb
        replace ht := thru ht hb
        have hz1 := hb.size
        replace hzX : b4 + 1 ≤ X1.heap.size := by omega
        clear hb hz1 
        try simp only [Act.put, List.setIfInBounds_toArray, List.set_cons_zero, List.set_cons_succ]
        rw [wpSchedB]
        simp only [pick, List.map_nil, Array.getD_eq_getD_getElem?, List.getElem?_toArray, List.getElem?_cons_succ, List.getElem?_cons_zero, Option.getD_some]
        refine wpQuiet_nil ?_
        refine ⟨?_, ?_⟩
        · refine heavyB_want (by rfl) (fun K' hK' => ?_)
          go_simp
          refine hK' _ _ (Below.refl _ _) ?_
          clear hK' K'
          try simp only [Act.put, List.setIfInBounds_toArray, List.set_cons_zero, List.set_cons_succ]
          rw [wpSchedB]
          simp only [pick, List.map_nil, Array.getD_eq_getD_getElem?, List.getElem?_toArray, List.getElem?_cons_succ, List.getElem?_cons_zero, Option.getD_some]
          refine wpQuiet_nil ?_
          refine heavyB_want (by rfl) (fun K' hK' => ?_)
          go_simp
          refine hK' _ _ ((Below.refl _ _).alloc (by omega) _) ?_
          clear hK' K'
          have hq1 := al (Below.refl _ X1) (.cells #[.slice (some ⟨g, 0, none⟩) 54 54] 25)
          have ny : (X1.alloc (.cells #[.slice (some ⟨g, 0, none⟩) 54 54] 25)).cell? ⟨X1.heap.size, 0, none⟩ = some (.slice (some ⟨g, 0, none⟩) 54 54) := by go_simp
          replace c19 := later hq1 c19
          replace f19 := (Below.frozen hq1 (by simp <;> omega)).trans f19
          replace ho := ho.later hq1
          replace hu := hu.later hq1
          replace ht := thru ht hq1
          have hzy : X1.heap.size < (X1.alloc (.cells #[.slice (some ⟨g, 0, none⟩) 54 54] 25)).heap.size := by simp
          obtain ⟨X2, hX2⟩ : ∃ Z : World, X1.alloc (.cells #[.slice (some ⟨g, 0, none⟩) 54 54] 25) = Z := ⟨_, rfl⟩
          rw [hX2] at ny c19 f19 ho hu ht hzy
          rw [hX2]
          clear hX2 hq1
          try simp only [Act.put, List.setIfInBounds_toArray, List.set_cons_zero, List.set_cons_succ]
          rw [wpSchedB]
          simp only [pick, List.map_nil, Array.getD_eq_getD_getElem?, List.getElem?_toArray, List.getElem?_cons_succ, List.getElem?_cons_zero, Option.getD_some]
          refine wpQuiet_nil ?_
          refine heavyB_want (by rfl) (fun K' hK' => ?_)
          refine wp_appR _ _ rfl (B := b4 + 1) (rs := rs) (cap := cj) (xa := xj) ho.row rfl (ad := ⟨X1.heap.size, 0, none⟩) (u := ⟨some ⟨g, 0, none⟩, 54, erasedL⟩) rfl ny (by omega) (by omega) (fun x' c' X3 h1 h2 h3 => hK' _ _ (h2.mono (by omega)) ?_)
          clear hK' K'
          replace c19 := later_lt h2 (a := ⟨b4, 0, none⟩) (by simp <;> omega) c19
          replace f19 := (h2.frozen (p := ⟨b4, 0, none⟩) (by simp <;> omega)).trans f19
          have ht3 : Below (b4 + 1) wr X3 := (ht.mono (by omega)).trans h2
          have ho3 := ho.app h1 h3 hu
          have hlen1 : ((rs ++ [⟨some ⟨g, 0, none⟩, 54, erasedL⟩] : List Rw).length : Int) = (rs.length : Int) + 1 := by simp
          clear ho hu h2 h3 ny ht
          try simp only [Act.put, List.setIfInBounds_toArray, List.set_cons_zero, List.set_cons_succ]
          rw [wpSchedB]
          simp only [pick, List.map_cons, List.map_nil, Array.getD_eq_getD_getElem?, List.getElem?_toArray, List.getElem?_cons_succ, List.getElem?_cons_zero, Option.getD_some]
          repeat (first | go_big_quiet_step (fail) | quiet_step (fail))
          refine wpQuiet_nil ?_
          refine heavyB_want (by rfl) (fun K' hK' => ?_)
          go_simp
          refine hK' _ _ ((Below.refl _ _).setCell (p := ⟨b4, 0, none⟩) (Nat.le_refl _) _) ?_
          clear hK' K'
          try simp only [Act.put, List.setIfInBounds_toArray, List.set_cons_zero, List.set_cons_succ]
          rw [wpSchedB]
          simp only [List.map_nil]
          refine wpQuiet_nil ?_
          have hz3 : b4 < X3.heap.size := by have := ht3.size; omega
          have hB3 : Below w.heap.size w X3 := hB.trans (ht3.mono (by omega))
          have r19 := later_lt ht3 (a := ⟨w.heap.size, 0, none⟩) (by simp <;> omega) r19
          have g19 := (ht3.frozen (p := ⟨w.heap.size, 0, none⟩) (by simp <;> omega)).trans g19
          clear ht3
          go_wp2_with fail
          exact ⟨⟨rs ++ [⟨some ⟨g, 0, none⟩, 54, erasedL⟩], x', c', by simp; omega, by rw [hlen1], ho3.turnB ((Turns.refl (fun b => b = b4) X3).setCell (p := ⟨b4, 0, none⟩) (fun _ => rfl) _) (fun b hb _ e => by have e' : b = b4 := e; omega), by rw [World.cell?_setCell_same' _ _ _ (by rw [c19]; rfl)]; simp, by rw [World.frozen?_setCell]; exact f19, hB3.setCell (p := ⟨b4, 0, none⟩) (by simp <;> omega) _, by simp <;> omega, by go_simp, by go_simp⟩, by simp [intOf]; omega⟩
        · refine heavyB_want (by rfl) (fun K' hK' => ?_)
          go_simp
          refine hK' _ _ ((Below.refl _ _).alloc (by omega) _) ?_
          clear hK' K'
          have hq1 := al (Below.refl _ X1) (.cells #[.slice (some ⟨g, 0, none⟩) 54 54] 25)
          have ny : (X1.alloc (.cells #[.slice (some ⟨g, 0, none⟩) 54 54] 25)).cell? ⟨X1.heap.size, 0, none⟩ = some (.slice (some ⟨g, 0, none⟩) 54 54) := by go_simp
          replace c19 := later hq1 c19
          replace f19 := (Below.frozen hq1 (by simp <;> omega)).trans f19
          replace ho := ho.later hq1
          replace hu := hu.later hq1
          replace ht := thru ht hq1
          have hzy : X1.heap.size < (X1.alloc (.cells #[.slice (some ⟨g, 0, none⟩) 54 54] 25)).heap.size := by simp
          obtain ⟨X2, hX2⟩ : ∃ Z : World, X1.alloc (.cells #[.slice (some ⟨g, 0, none⟩) 54 54] 25) = Z := ⟨_, rfl⟩
          rw [hX2] at ny c19 f19 ho hu ht hzy
          rw [hX2]
          clear hX2 hq1
          try simp only [Act.put, List.setIfInBounds_toArray, List.set_cons_zero, List.set_cons_succ]
          rw [wpSchedB]
          simp only [pick, List.map_nil, Array.getD_eq_getD_getElem?, List.getElem?_toArray, List.getElem?_cons_succ, List.getElem?_cons_zero, Option.getD_some]
          refine wpQuiet_nil ?_
          refine heavyB_want (by rfl) (fun K' hK' => ?_)
          go_simp
          refine hK' _ _ (Below.refl _ _) ?_
          clear hK' K'
          try simp only [Act.put, List.setIfInBounds_toArray, List.set_cons_zero, List.set_cons_succ]
          rw [wpSchedB]
          simp only [pick, List.map_nil, Array.getD_eq_getD_getElem?, List.getElem?_toArray, List.getElem?_cons_succ, List.getElem?_cons_zero, Option.getD_some]
          refine wpQuiet_nil ?_
          refine heavyB_want (by rfl) (fun K' hK' => ?_)
          refine wp_appR _ _ rfl (B := b4 + 1) (rs := rs) (cap := cj) (xa := xj) ho.row rfl (ad := ⟨X1.heap.size, 0, none⟩) (u := ⟨some ⟨g, 0, none⟩, 54, erasedL⟩) rfl ny (by omega) (by omega) (fun x' c' X3 h1 h2 h3 => hK' _ _ (h2.mono (by omega)) ?_)
          clear hK' K'
          replace c19 := later_lt h2 (a := ⟨b4, 0, none⟩) (by simp <;> omega) c19
          replace f19 := (h2.frozen (p := ⟨b4, 0, none⟩) (by simp <;> omega)).trans f19
          have ht3 : Below (b4 + 1) wr X3 := (ht.mono (by omega)).trans h2
          have ho3 := ho.app h1 h3 hu
          have hlen1 : ((rs ++ [⟨some ⟨g, 0, none⟩, 54, erasedL⟩] : List Rw).length : Int) = (rs.length : Int) + 1 := by simp
          clear ho hu h2 h3 ny ht
          try simp only [Act.put, List.setIfInBounds_toArray, List.set_cons_zero, List.set_cons_succ]
          rw [wpSchedB]
          simp only [pick, List.map_cons, List.map_nil, Array.getD_eq_getD_getElem?, List.getElem?_toArray, List.getElem?_cons_succ, List.getElem?_cons_zero, Option.getD_some]
          repeat (first | go_big_quiet_step (fail) | quiet_step (fail))
          refine wpQuiet_nil ?_
          refine heavyB_want (by rfl) (fun K' hK' => ?_)
          go_simp
          refine hK' _ _ ((Below.refl _ _).setCell (p := ⟨b4, 0, none⟩) (Nat.le_refl _) _) ?_
          clear hK' K'
          try simp only [Act.put, List.setIfInBounds_toArray, List.set_cons_zero, List.set_cons_succ]
          rw [wpSchedB]
          simp only [List.map_nil]
          refine wpQuiet_nil ?_
          have hz3 : b4 < X3.heap.size := by have := ht3.size; omega
          have hB3 : Below w.heap.size w X3 := hB.trans (ht3.mono (by omega))
          have r19 := later_lt ht3 (a := ⟨w.heap.size, 0, none⟩) (by simp <;> omega) r19
          have g19 := (ht3.frozen (p := ⟨w.heap.size, 0, none⟩) (by simp <;> omega)).trans g19
          clear ht3
          go_wp2_with fail
          exact ⟨⟨rs ++ [⟨some ⟨g, 0, none⟩, 54, erasedL⟩], x', c', by simp; omega, by rw [hlen1], ho3.turnB ((Turns.refl (fun b => b = b4) X3).setCell (p := ⟨b4, 0, none⟩) (fun _ => rfl) _) (fun b hb _ e => by have e' : b = b4 := e; omega), by rw [World.cell?_setCell_same' _ _ _ (by rw [c19]; rfl)]; simp, by rw [World.frozen?_setCell]; exact f19, hB3.setCell (p := ⟨b4, 0, none⟩) (by simp <;> omega) _, by simp <;> omega, by go_simp, by go_simp⟩, by simp [intOf]; omega⟩
    · obtain rfl : rs.length = n := by omega
      go_wp2_with fail
      have er : (wr.setCell ⟨w.heap.size, 0, none⟩ (.slice xj rs.length cj)).cell? ⟨w.heap.size, 0, none⟩ = some (.slice xj rs.length cj) := World.cell?_setCell_same' _ _ _ (by rw [r19]; rfl)
      refine bodyPost_ret (v := .tuple #[.agg #[.slice xj rs.length cj], .int .i64 0]) (by simp [results, Try.results11, go_sem, er]) rfl ⟨xj, cj, rs, rfl, rfl, ?_, hB.setCell (p := ⟨w.heap.size, 0, none⟩) (by simp <;> omega) _⟩
      have ho2 := ho.turnB ((Turns.refl (fun b => b = w.heap.size) wr).setCell (p := ⟨w.heap.size, 0, none⟩) (fun _ => rfl) (.slice xj rs.length cj)) (fun b hb _ e => by have e' : b = w.heap.size := e; omega)
      exact ⟨ho2.row.weaken (by omega), fun r hr => by obtain ⟨g, h1, h2, h3⟩ := ho2.each r hr; exact ⟨g, h1, by omega, h3⟩⟩

end Go.Proofs.Ytgibfagnfhgelaa
