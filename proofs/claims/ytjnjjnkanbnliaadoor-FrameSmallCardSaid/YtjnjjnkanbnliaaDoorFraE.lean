/- WALKS of the frame layer: the reader. -/
import Derived.Test.YtjnjjnkanbnliaaDoorFraD
namespace Go.Proofs.YtjnjjnkanbnliaaDoor
open Go.RowKit

theorem scell {w V : World} {a p : Addr} {u v : Value} (hw : V = w.setCell p u) (hne : a ≠ p) (h : w.cell? a = some v) : V.cell? a = some v := by rw [hw, World.cell?_setCell_other _ _ _ _ (Ne.symm hne)]; exact h
theorem sfroz {w V : World} {a p : Addr} {u : Value} {b : Bool} (hw : V = w.setCell p u) (h : w.frozen? a = b) : V.frozen? a = b := by rw [hw, World.frozen?_setCell]; exact h
def NextOf (g gd _o : Nat) (v : UInt8) (r : List UInt8) (c : Nat) (w : World) (e : Ending) (w' : World) : Prop :=
  ∃ o', e = .returned (.int .i64 (v.toNat : Int)) ∧ w' = w.setCell ⟨g, 0, none⟩ (.slice (some ⟨gd, o', none⟩) r.length (c - 1)) ∧ Bts w (some ⟨gd, o', none⟩) r
set_option maxHeartbeats 400000 in
theorem next_any (g gd o : Nat) (v : UInt8) (r : List UInt8) (c : Nat) (w : World) (hg : w.cell? ⟨g, 0, none⟩ = some (.slice (some ⟨gd, o, none⟩) (r.length + 1) c)) (hf : w.frozen? ⟨g, 0, none⟩ = false) (hb : Bts w (some ⟨gd, o, none⟩) (v :: r)) (hc : r.length + 1 ≤ c) (hc2 : c ≤ 9223372036854775807) :
    Calls Tryd.prog 50 #[.pointer (some ⟨g, 0, none⟩)] w (NextOf g gd o v r c w) := by
  have hv : w.cell? ⟨gd, o, none⟩ = some (.int .u8 (v.toNat : Int)) := by
    rcases hb with h | ⟨b', o', hx, hcl⟩
    · cases h
    · cases hx; exact hcl 0 (by simp)
  have h256 := v.toNat_lt
  have hr : Bts w (some ⟨gd, o + 1, none⟩) r := Bts.right (l := [v]) hb
  have HR := Lib.hid hr
  clear hr hb
  by_cases h1 : c = 1
  · subst h1
    obtain rfl : r = [] := List.length_eq_zero_iff.1 (by omega)
    go_enter Tryd.func50, Tryd.ntmps50
    go_wp2_with fail
    go_ret
    exact ⟨_, rfl, rfl, Bts.nil _ _⟩
  · have h2 : 2 ≤ c := by omega
    have hne : ¬ c - 1 = 0 := by omega
    have hne2 : (c - 1 == 0) = false := by simp; omega
    go_enter Tryd.func50, Tryd.ntmps50
    go_wp2_with fail
    go_ret
    exact ⟨o + 1, rfl, rfl, HR.out⟩

def RestOf (g : Nat) (r : List UInt8) (w : World) (e : Ending) (w' : World) : Prop :=
  ∃ x2 c2 w1, e = .returned (.slice x2 r.length c2) ∧ OwnsB w.heap.size w1 x2 c2 r ∧ Below w.heap.size w w1 ∧ w' = w1.setCell ⟨g, 0, none⟩ (.slice none 0 0)
set_option maxHeartbeats 400000 in
theorem rest_any (g gd o : Nat) (r : List UInt8) (c : Nat) (w : World) (hg : w.cell? ⟨g, 0, none⟩ = some (.slice (some ⟨gd, o, none⟩) r.length c)) (hf : w.frozen? ⟨g, 0, none⟩ = false) (hb : Bts w (some ⟨gd, o, none⟩) r) (hl : r.length ≤ 100000) :
    Calls Tryd.prog 51 #[.pointer (some ⟨g, 0, none⟩)] w (RestOf g r w) := by
  have hgs := World.block_lt_of_cell? _ _ hg
  go_enter Tryd.func51, Tryd.ntmps51
  go_wp2_with fail
  refine (bclone_any (some ⟨gd, o, none⟩) r c _ hb (fun h => by cases h) hl).mono ?_
  rintro e w1 ⟨x2, c2, rfl, ho, hb1⟩
  have hg1 := later hb1 hg
  have hf1 := (hb1.frozen (p := ⟨g, 0, none⟩) hgs).trans hf
  have HO := Lib.hid ho
  have HB := Lib.hid hb1
  clear ho hb1 hg hf
  go_wp2_with fail
  go_ret
  exact ⟨x2, c2, w1, rfl, HO.out, HB.out, rfl⟩

theorem read_short (g : Nat) (x : Option Addr) (l : List UInt8) (c : Nat) (w : World) (hg : w.cell? ⟨g, 0, none⟩ = some (.slice x l.length c)) (h4 : l.length < 4) :
    Calls Tryd.prog 40 #[.pointer (some ⟨g, 0, none⟩)] w fun e w' => e = .returned (.bool false) ∧ w' = w := by
  have d : decide ((l.length : Int) < 4) = true := by simp; omega
  go_enter Tryd.func40, Tryd.ntmps40
  go_wp2_with fail
  go_ret
  exact ⟨rfl, rfl⟩

def ReadOf' (g : Nat) (a b d e0 : UInt8) (r : List UInt8) (w : World) (e : Ending) (w' : World) : Prop :=
  ∃ x2 c2, e = .returned (.bool (((e0.toNat : Int) == (r.length : Int)) && vldF (a.toNat : Int) (b.toNat : Int) (d.toNat : Int) r.length)) ∧ w'.cell? ⟨g, 1, none⟩ = some (.int .i64 (a.toNat : Int)) ∧ w'.cell? ⟨g, 1 + 1, none⟩ = some (.int .i64 (b.toNat : Int)) ∧ w'.cell? ⟨g, 1 + 2, none⟩ = some (.int .i64 (d.toNat : Int)) ∧ w'.cell? ⟨g, 1 + 3, none⟩ = some (.slice x2 r.length c2) ∧ OwnsB w.heap.size w' x2 c2 r ∧ Below g w w'
set_option maxHeartbeats 2000000 in
theorem read_long (g gd o : Nat) (a b d e0 : UInt8) (r : List UInt8) (c : Nat) (w : World) (hg : w.cell? ⟨g, 0, none⟩ = some (.slice (some ⟨gd, o, none⟩) (r.length + 4) c)) (hb : Bts w (some ⟨gd, o, none⟩) (a :: b :: d :: e0 :: r)) (hc : r.length + 4 ≤ c) (hc2 : c ≤ 9223372036854775807) (hgd : gd < g) (hl : r.length ≤ 100000)
    (c1 : w.cell? ⟨g, 1, none⟩ = some (.int .i64 0)) (c2 : w.cell? ⟨g, 1 + 1, none⟩ = some (.int .i64 0)) (c3 : w.cell? ⟨g, 1 + 2, none⟩ = some (.int .i64 0)) (c4 : w.cell? ⟨g, 1 + 3, none⟩ = some (.slice none 0 0))
    (f0 : w.frozen? ⟨g, 0, none⟩ = false) (f1 : w.frozen? ⟨g, 1, none⟩ = false) (f2 : w.frozen? ⟨g, 1 + 1, none⟩ = false) (f3 : w.frozen? ⟨g, 1 + 2, none⟩ = false) (f4 : w.frozen? ⟨g, 1 + 3, none⟩ = false) :
    Calls Tryd.prog 40 #[.pointer (some ⟨g, 0, none⟩)] w (ReadOf' g a b d e0 r w) := by
  have hgs : g < w.heap.size := World.block_lt_of_cell? _ _ hg
  have dd : decide ((r.length : Int) + 4 < 4) = false := by simp; omega
  go_enter Tryd.func40, Tryd.ntmps40
  go_wp2_with fail
  refine wp_region_schedB (B := g) (fun W => W.cell? ⟨g, 0, none⟩ = some (.slice (some ⟨gd, o, none⟩) (r.length + 4) c) ∧ Bts W (some ⟨gd, o, none⟩) (a :: b :: d :: e0 :: r) ∧ W.cell? ⟨g, 1, none⟩ = some (.int .i64 0) ∧ W.cell? ⟨g, 1 + 1, none⟩ = some (.int .i64 0) ∧ W.cell? ⟨g, 1 + 2, none⟩ = some (.int .i64 0) ∧ W.cell? ⟨g, 1 + 3, none⟩ = some (.slice none 0 0) ∧
    W.frozen? ⟨g, 0, none⟩ = false ∧ W.frozen? ⟨g, 1, none⟩ = false ∧ W.frozen? ⟨g, 1 + 1, none⟩ = false ∧ W.frozen? ⟨g, 1 + 2, none⟩ = false ∧ W.frozen? ⟨g, 1 + 3, none⟩ = false ∧ W.heap.size = w.heap.size ∧ Below w.heap.size w W) (.one [0, 1, 2, 3, 4, 5, 7, 8, 9, 11, 12, 13] 6 (.one [] 10 (.one [] 14 (.one [15, 16, 17] 18 (.one [19, 20, 21] 22 (.one [23, 24, 25] 26 (.done []))))))) (by kernel_rfl) (by kernel_rfl) (fun _ _ _ _ _ h => h) ⟨hg, hb, c1, c2, c3, c4, f0, f1, f2, f3, f4, rfl, (Below.refl _ _).drew⟩ ?_
  clear hg hb c1 c2 c3 c4 f0 f1 f2 f3 f4
  rintro W ⟨hg, hb, c1, c2, c3, c4, f0, f1, f2, f3, f4, hs, hB⟩
  have HS := Lib.hid hs
  clear hs
  rw [wpSchedB]
  simp only [pick, List.map_cons, List.map_nil, Array.getD_eq_getD_getElem?, List.getElem?_toArray, List.getElem?_cons_succ, List.getElem?_cons_zero, Option.getD_some]
  repeat (first | go_big_quiet_step (fail) | quiet_step (fail))
  refine wpQuiet_nil ?_
  refine heavyB_want (by rfl) (fun K' hK' => ?_)
  go_simp
  refine (next_any g gd o a (b :: d :: e0 :: r) (c) _ hg f0 hb (by simp; omega) (by omega)).mono ?_
  rintro e V1 ⟨o1, rfl, hw, hb'⟩
  refine hK' _ _ (by rw [hw]; exact (Below.refl _ _).setCell (p := ⟨g, 0, none⟩) (Nat.le_refl _) _) ?_
  clear hK' K'
  have hg' : V1.cell? ⟨g, 0, none⟩ = some (.slice (some ⟨gd, o1, none⟩) (b :: d :: e0 :: r).length (c - 1)) := by rw [hw]; exact World.cell?_setCell_same' _ _ _ (by rw [hg]; rfl)
  have ht : Turns (fun b => b = g) W V1 := by rw [hw]; exact Turns.setCell (T := fun b => b = g) (p := ⟨g, 0, none⟩) (Turns.refl _ _) (fun _ => rfl) _
  have hB' : Below g w V1 := by rw [hw]; exact (hB.mono (Nat.le_of_lt hgs)).setCell (p := ⟨g, 0, none⟩) (Nat.le_refl _) _
  replace hb := hb'.turn ht (fun a h => by cases h; simp; omega)
  replace c1 := scell hw (by simp) c1
  replace c2 := scell hw (by simp) c2
  replace c3 := scell hw (by simp) c3
  replace c4 := scell hw (by simp) c4
  replace f0 := sfroz hw f0
  replace f1 := sfroz hw f1
  replace f2 := sfroz hw f2
  replace f3 := sfroz hw f3
  replace f4 := sfroz hw f4
  have hs' : V1.heap.size = w.heap.size := by rw [hw]; simp; exact HS.out
  clear hg hB hw hb' ht HS
  have hg := hg'
  have hB := hB'
  have HS := Lib.hid hs'
  clear hg' hB' hs'
  try simp only [Act.put, List.setIfInBounds_toArray, List.set_cons_zero, List.set_cons_succ]
  rw [wpSchedB]
  simp only [pick, List.map_nil, Array.getD_eq_getD_getElem?, List.getElem?_toArray, List.getElem?_cons_succ, List.getElem?_cons_zero, Option.getD_some]
  refine wpQuiet_nil ?_
  refine heavyB_want (by rfl) (fun K' hK' => ?_)
  go_simp
  refine (next_any g gd o1 b (d :: e0 :: r) (c - 1) _ hg f0 hb (by simp; omega) (by omega)).mono ?_
  rintro e V2 ⟨o2, rfl, hw, hb'⟩
  refine hK' _ _ (by rw [hw]; exact (Below.refl _ _).setCell (p := ⟨g, 0, none⟩) (Nat.le_refl _) _) ?_
  clear hK' K'
  have hg' : V2.cell? ⟨g, 0, none⟩ = some (.slice (some ⟨gd, o2, none⟩) (d :: e0 :: r).length (c - 1 - 1)) := by rw [hw]; exact World.cell?_setCell_same' _ _ _ (by rw [hg]; rfl)
  have ht : Turns (fun b => b = g) V1 V2 := by rw [hw]; exact Turns.setCell (T := fun b => b = g) (p := ⟨g, 0, none⟩) (Turns.refl _ _) (fun _ => rfl) _
  have hB' : Below g w V2 := by rw [hw]; exact hB.setCell (p := ⟨g, 0, none⟩) (Nat.le_refl _) _
  replace hb := hb'.turn ht (fun a h => by cases h; simp; omega)
  replace c1 := scell hw (by simp) c1
  replace c2 := scell hw (by simp) c2
  replace c3 := scell hw (by simp) c3
  replace c4 := scell hw (by simp) c4
  replace f0 := sfroz hw f0
  replace f1 := sfroz hw f1
  replace f2 := sfroz hw f2
  replace f3 := sfroz hw f3
  replace f4 := sfroz hw f4
  have hs' : V2.heap.size = w.heap.size := by rw [hw]; simp; exact HS.out
  clear hg hB hw hb' ht HS
  have hg := hg'
  have hB := hB'
  have HS := Lib.hid hs'
  clear hg' hB' hs'
  try simp only [Act.put, List.setIfInBounds_toArray, List.set_cons_zero, List.set_cons_succ]
  rw [wpSchedB]
  simp only [pick, List.map_nil, Array.getD_eq_getD_getElem?, List.getElem?_toArray, List.getElem?_cons_succ, List.getElem?_cons_zero, Option.getD_some]
  refine wpQuiet_nil ?_
  refine heavyB_want (by rfl) (fun K' hK' => ?_)
  go_simp
  refine (next_any g gd o2 d (e0 :: r) (c - 1 - 1) _ hg f0 hb (by simp; omega) (by omega)).mono ?_
  rintro e V3 ⟨o3, rfl, hw, hb'⟩
  refine hK' _ _ (by rw [hw]; exact (Below.refl _ _).setCell (p := ⟨g, 0, none⟩) (Nat.le_refl _) _) ?_
  clear hK' K'
  have hg' : V3.cell? ⟨g, 0, none⟩ = some (.slice (some ⟨gd, o3, none⟩) (e0 :: r).length (c - 1 - 1 - 1)) := by rw [hw]; exact World.cell?_setCell_same' _ _ _ (by rw [hg]; rfl)
  have ht : Turns (fun b => b = g) V2 V3 := by rw [hw]; exact Turns.setCell (T := fun b => b = g) (p := ⟨g, 0, none⟩) (Turns.refl _ _) (fun _ => rfl) _
  have hB' : Below g w V3 := by rw [hw]; exact hB.setCell (p := ⟨g, 0, none⟩) (Nat.le_refl _) _
  replace hb := hb'.turn ht (fun a h => by cases h; simp; omega)
  replace c1 := scell hw (by simp) c1
  replace c2 := scell hw (by simp) c2
  replace c3 := scell hw (by simp) c3
  replace c4 := scell hw (by simp) c4
  replace f0 := sfroz hw f0
  replace f1 := sfroz hw f1
  replace f2 := sfroz hw f2
  replace f3 := sfroz hw f3
  replace f4 := sfroz hw f4
  have hs' : V3.heap.size = w.heap.size := by rw [hw]; simp; exact HS.out
  clear hg hB hw hb' ht HS
  have hg := hg'
  have hB := hB'
  have HS := Lib.hid hs'
  clear hg' hB' hs'
  try simp only [Act.put, List.setIfInBounds_toArray, List.set_cons_zero, List.set_cons_succ]
  rw [wpSchedB]
  simp only [pick, List.map_cons, List.map_nil, Array.getD_eq_getD_getElem?, List.getElem?_toArray, List.getElem?_cons_succ, List.getElem?_cons_zero, Option.getD_some]
  repeat (first | go_big_quiet_step (fail) | quiet_step (fail))
  refine wpQuiet_nil ?_
  refine heavyB_want (by rfl) (fun K' hK' => ?_)
  go_simp
  refine hK' _ _ ((Below.refl _ _).setCell (p := ⟨g, 1, none⟩) (Nat.le_refl _) _) ?_
  clear hK' K'
  obtain ⟨V4, hw⟩ : ∃ X, V3.setCell ⟨g, 1, none⟩ (.int .i64 (a.toNat : Int)) = X := ⟨_, rfl⟩
  rw [hw]
  have hn1 : V4.cell? ⟨g, 1, none⟩ = some (.int .i64 (a.toNat : Int)) := by rw [← hw]; exact World.cell?_setCell_same' _ _ _ (by rw [c1]; rfl)
  have ht : Turns (fun b => b = g) V3 V4 := by rw [← hw]; exact Turns.setCell (T := fun b => b = g) (p := ⟨g, 1, none⟩) (Turns.refl _ _) (fun _ => rfl) _
  replace hg := scell hw.symm (by simp) hg
  replace hb := hb.turn ht (fun a h => by cases h; simp; omega)
  have hB' : Below g w V4 := by rw [← hw]; exact hB.setCell (p := ⟨g, 1, none⟩) (Nat.le_refl _) _
  replace c2 := scell hw.symm (by simp) c2
  replace c3 := scell hw.symm (by simp) c3
  replace c4 := scell hw.symm (by simp) c4
  replace f0 := sfroz hw.symm f0
  replace f1 := sfroz hw.symm f1
  replace f2 := sfroz hw.symm f2
  replace f3 := sfroz hw.symm f3
  replace f4 := sfroz hw.symm f4
  have hs' : V4.heap.size = w.heap.size := by rw [← hw]; simp; exact HS.out
  clear hB hw ht HS c1
  have hB := hB'
  have HS := Lib.hid hs'
  clear hB' hs'
  try simp only [Act.put, List.setIfInBounds_toArray, List.set_cons_zero, List.set_cons_succ]
  rw [wpSchedB]
  simp only [pick, List.map_cons, List.map_nil, Array.getD_eq_getD_getElem?, List.getElem?_toArray, List.getElem?_cons_succ, List.getElem?_cons_zero, Option.getD_some]
  repeat (first | go_big_quiet_step (fail) | quiet_step (fail))
  refine wpQuiet_nil ?_
  refine heavyB_want (by rfl) (fun K' hK' => ?_)
  go_simp
  refine hK' _ _ ((Below.refl _ _).setCell (p := ⟨g, 1 + 1, none⟩) (Nat.le_refl _) _) ?_
  clear hK' K'
  obtain ⟨V5, hw⟩ : ∃ X, V4.setCell ⟨g, 1 + 1, none⟩ (.int .i64 (b.toNat : Int)) = X := ⟨_, rfl⟩
  rw [hw]
  have hn2 : V5.cell? ⟨g, 1 + 1, none⟩ = some (.int .i64 (b.toNat : Int)) := by rw [← hw]; exact World.cell?_setCell_same' _ _ _ (by rw [c2]; rfl)
  have ht : Turns (fun b => b = g) V4 V5 := by rw [← hw]; exact Turns.setCell (T := fun b => b = g) (p := ⟨g, 1 + 1, none⟩) (Turns.refl _ _) (fun _ => rfl) _
  replace hg := scell hw.symm (by simp) hg
  replace hb := hb.turn ht (fun a h => by cases h; simp; omega)
  have hB' : Below g w V5 := by rw [← hw]; exact hB.setCell (p := ⟨g, 1 + 1, none⟩) (Nat.le_refl _) _
  replace hn1 := scell hw.symm (by simp) hn1
  replace c3 := scell hw.symm (by simp) c3
  replace c4 := scell hw.symm (by simp) c4
  replace f0 := sfroz hw.symm f0
  replace f1 := sfroz hw.symm f1
  replace f2 := sfroz hw.symm f2
  replace f3 := sfroz hw.symm f3
  replace f4 := sfroz hw.symm f4
  have hs' : V5.heap.size = w.heap.size := by rw [← hw]; simp; exact HS.out
  clear hB hw ht HS c2
  have hB := hB'
  have HS := Lib.hid hs'
  clear hB' hs'
  try simp only [Act.put, List.setIfInBounds_toArray, List.set_cons_zero, List.set_cons_succ]
  rw [wpSchedB]
  simp only [pick, List.map_cons, List.map_nil, Array.getD_eq_getD_getElem?, List.getElem?_toArray, List.getElem?_cons_succ, List.getElem?_cons_zero, Option.getD_some]
  repeat (first | go_big_quiet_step (fail) | quiet_step (fail))
  refine wpQuiet_nil ?_
  refine heavyB_want (by rfl) (fun K' hK' => ?_)
  go_simp
  refine hK' _ _ ((Below.refl _ _).setCell (p := ⟨g, 1 + 2, none⟩) (Nat.le_refl _) _) ?_
  clear hK' K'
  obtain ⟨V6, hw⟩ : ∃ X, V5.setCell ⟨g, 1 + 2, none⟩ (.int .i64 (d.toNat : Int)) = X := ⟨_, rfl⟩
  rw [hw]
  have hn3 : V6.cell? ⟨g, 1 + 2, none⟩ = some (.int .i64 (d.toNat : Int)) := by rw [← hw]; exact World.cell?_setCell_same' _ _ _ (by rw [c3]; rfl)
  have ht : Turns (fun b => b = g) V5 V6 := by rw [← hw]; exact Turns.setCell (T := fun b => b = g) (p := ⟨g, 1 + 2, none⟩) (Turns.refl _ _) (fun _ => rfl) _
  replace hg := scell hw.symm (by simp) hg
  replace hb := hb.turn ht (fun a h => by cases h; simp; omega)
  have hB' : Below g w V6 := by rw [← hw]; exact hB.setCell (p := ⟨g, 1 + 2, none⟩) (Nat.le_refl _) _
  replace hn1 := scell hw.symm (by simp) hn1
  replace hn2 := scell hw.symm (by simp) hn2
  replace c4 := scell hw.symm (by simp) c4
  replace f0 := sfroz hw.symm f0
  replace f1 := sfroz hw.symm f1
  replace f2 := sfroz hw.symm f2
  replace f3 := sfroz hw.symm f3
  replace f4 := sfroz hw.symm f4
  have hs' : V6.heap.size = w.heap.size := by rw [← hw]; simp; exact HS.out
  clear hB hw ht HS c3
  have hB := hB'
  have HS := Lib.hid hs'
  clear hB' hs'
  try simp only [Act.put, List.setIfInBounds_toArray, List.set_cons_zero, List.set_cons_succ]
  rw [wpSchedB]
  simp only [List.map_nil]
  refine wpQuiet_nil ?_
  have hl1 : (e0 :: r).length = r.length + 1 := rfl
  rw [hl1] at hg
  clear hl1
  go_wp2_with fail
  refine (next_any g gd o3 e0 r (c - 1 - 1 - 1) _ hg f0 hb (by omega) (by omega)).mono ?_
  rintro e V7 ⟨o4, rfl, hw, hb'⟩
  have hg' : V7.cell? ⟨g, 0, none⟩ = some (.slice (some ⟨gd, o4, none⟩) r.length (c - 1 - 1 - 1 - 1)) := by rw [hw]; exact World.cell?_setCell_same' _ _ _ (by rw [hg]; rfl)
  have ht : Turns (fun b => b = g) V6 V7 := by rw [hw]; exact Turns.setCell (T := fun b => b = g) (p := ⟨g, 0, none⟩) (Turns.refl _ _) (fun _ => rfl) _
  have hB' : Below g w V7 := by rw [hw]; exact hB.setCell (p := ⟨g, 0, none⟩) (Nat.le_refl _) _
  replace hb := hb'.turn ht (fun a h => by cases h; simp; omega)
  replace hn1 := scell hw (by simp) hn1
  replace hn2 := scell hw (by simp) hn2
  replace hn3 := scell hw (by simp) hn3
  replace c4 := scell hw (by simp) c4
  replace f0 := sfroz hw f0
  replace f1 := sfroz hw f1
  replace f2 := sfroz hw f2
  replace f3 := sfroz hw f3
  replace f4 := sfroz hw f4
  have hs' : V7.heap.size = w.heap.size := by rw [hw]; simp; exact HS.out
  clear hg hB hw hb' ht HS
  go_wp2_with fail
  refine (rest_any g gd o4 r _ _ hg' f0 hb hl).mono ?_
  rintro e V9 ⟨x2, cx2, V8, rfl, ho, hb8, hw⟩
  have hz : g < V7.heap.size := by omega
  have HO := Lib.hid ho
  have m1 := later hb8 hn1
  have m2 := later hb8 hn2
  have m3 := later hb8 hn3
  have m4 := later hb8 c4
  have n4 := (hb8.frozen (p := ⟨g, 1 + 3, none⟩) hz).trans f4
  have hB8 := hB'.trans (hb8.mono (Nat.le_of_lt hz))
  subst hw
  clear hn1 hn2 hn3 c4 f0 f1 f2 f3 f4 hb8 hB' hg' hb ho
  have key : ∀ V, V = (V8.setCell ⟨g, 0, none⟩ (.slice none 0 0)).setCell ⟨g, 1 + 3, none⟩ (.slice x2 r.length cx2) → V.cell? ⟨g, 1, none⟩ = some (.int .i64 (a.toNat : Int)) ∧ V.cell? ⟨g, 1 + 1, none⟩ = some (.int .i64 (b.toNat : Int)) ∧ V.cell? ⟨g, 1 + 2, none⟩ = some (.int .i64 (d.toNat : Int)) ∧ V.cell? ⟨g, 1 + 3, none⟩ = some (.slice x2 r.length cx2) ∧ OwnsB w.heap.size V x2 cx2 r ∧ Below g w V := fun V hV => by
    have m4' := scell (V := V8.setCell ⟨g, 0, none⟩ (.slice none 0 0)) (p := ⟨g, 0, none⟩) rfl (by simp) m4
    have o8 : OwnsB w.heap.size V8 x2 cx2 r := HO.out.weaken (by omega)
    refine ⟨scell hV (by simp) (scell rfl (by simp) m1), scell hV (by simp) (scell rfl (by simp) m2), scell hV (by simp) (scell rfl (by simp) m3), ?_, ?_, ?_⟩
    · rw [hV]; exact World.cell?_setCell_same' _ _ _ (by rw [m4']; rfl)
    · refine o8.turn (T := fun b => b = g) ?_ (fun b hb e => ?_)
      · rw [hV]; exact Turns.setCell (T := fun b => b = g) (p := ⟨g, 1 + 3, none⟩) (Turns.setCell (T := fun b => b = g) (p := ⟨g, 0, none⟩) (Turns.refl _ _) (fun _ => rfl) _) (fun _ => rfl) _
      · have := (o8.low b hb).1; omega
    · rw [hV]; exact (hB8.setCell (p := ⟨g, 0, none⟩) (Nat.le_refl _) _).setCell (p := ⟨g, 1 + 3, none⟩) (Nat.le_refl _) _
  have KEY := Lib.hid key
  clear key hs' hB8
  by_cases he : (e0.toNat : Int) = (r.length : Int)
  · have hq : ((e0.toNat : Int) == (r.length : Int)) = true := by simpa using he
    have HQ := Lib.hid hq
    clear he
    go_wp2_with fail
    refine (valid_any _ _ _ x2 r.length cx2 _).mono ?_
    rintro e W9 ⟨rfl, hb9⟩
    obtain ⟨V, hV⟩ : ∃ X, (V8.setCell ⟨g, 0, none⟩ (.slice none 0 0)).setCell ⟨g, 1 + 3, none⟩ (.slice x2 r.length cx2) = X := ⟨_, rfl⟩
    obtain ⟨p1, p2, p3, p4, po, pB⟩ := KEY.out V hV.symm
    have hV2 : (V8.setCell ⟨g, 0, none⟩ (.slice none 0 0)).setCell ⟨g, 4, none⟩ (.slice x2 r.length cx2) = V := hV
    simp only [hV2] at hb9
    have P1 := Lib.hid (later hb9 p1)
    have P2 := Lib.hid (later hb9 p2)
    have P3 := Lib.hid (later hb9 p3)
    have P4 := Lib.hid (later hb9 p4)
    have PO := Lib.hid (po.turn (Turns.of_below hb9 (Nat.le_refl _)) (fun _ _ h => h))
    have PB := Lib.hid (pB.trans (hb9.mono (by have := pB.size; omega)))
    clear p1 p2 p3 p4 po pB hb9 hV hV2 KEY m1 m2 m3 m4 n4
    go_wp2_with fail
    go_ret
    exact ⟨x2, cx2, by rw [HQ.out, Bool.true_and]; rfl, P1.out, P2.out, P3.out, P4.out, PO.out, PB.out⟩
  · have hq : ((e0.toNat : Int) == (r.length : Int)) = false := by simpa using he
    have HQ := Lib.hid hq
    clear he
    go_wp2_with fail
    go_ret
    obtain ⟨p1, p2, p3, p4, po, pB⟩ := KEY.out _ rfl
    exact ⟨x2, cx2, by rw [HQ.out, Bool.false_and]; rfl, p1, p2, p3, p4, po, pB⟩

end Go.Proofs.YtjnjjnkanbnliaaDoor
