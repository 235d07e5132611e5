/- WALKS of the laws of the frame layer: FrameSmall. -/
import Derived.Test.YtjnjjnkanbnliaaDoorLawG17
import Derived.Test.YtjnjjnkanbnliaaDoorPureBad17
import Derived.Test.YtjnjjnkanbnliaaDoorZeros
namespace Go.Proofs.YtjnjjnkanbnliaaDoor
open Go.RowKit

def IntsAt (W : World) (b : Nat) (l : List Int) : Prop := ∀ i, i < l.length → W.cell? ⟨b, i, none⟩ = some (.int .i64 (l.getD i 0))
theorem IntsAt.later {w w' : World} {b : Nat} {l : List Int} (h : IntsAt w b l) (hb : Below w.heap.size w w') : IntsAt w' b l := fun i hi => (hb.cell (World.block_lt_of_cell? _ _ (h i hi))).trans (h i hi)
theorem ints_new (w : World) (l : List Int) (C : Array Value) (t : TypeId) (h : C = (l.map fun n => Value.int .i64 n).toArray) : IntsAt (w.alloc (.cells C t)) w.heap.size l := by
  subst h
  intro i hi
  rw [cell_new]
  simp [List.getElem?_eq_getElem hi]
theorem IntsAt.low {w w' : World} {b B : Nat} {l : List Int} (h : IntsAt w b l) (hb : Below B w w') (hlt : b < B) : IntsAt w' b l := fun i hi => (hb.cell hlt).trans (h i hi)
def WordsAt (W : World) (b : Nat) (l : List W32) : Prop := ∀ i, i < l.length → W.cell? ⟨b, i, none⟩ = some (.int .u32 (n32 (l.getD i 0#32)))
theorem WordsAt.later {w w' : World} {b : Nat} {l : List W32} (h : WordsAt w b l) (hb : Below w.heap.size w w') : WordsAt w' b l := fun i hi => (hb.cell (World.block_lt_of_cell? _ _ (h i hi))).trans (h i hi)
theorem words_new (w : World) (l : List W32) (C : Array Value) (t : TypeId) (h : C = (l.map fun n => Value.int .u32 (n32 n)).toArray) : WordsAt (w.alloc (.cells C t)) w.heap.size l := by
  subst h
  intro i hi
  rw [cell_new]
  simp [List.getElem?_eq_getElem hi]
theorem cell_lit {C : Array Value} {i : Nat} {v : Value} (h : C[i]? = some v) (w : World) (t : TypeId) : (w.alloc (.cells C t)).cell? ⟨w.heap.size, i, none⟩ = some v := (cell_new w C t (0, 0) i).trans h
def smN : List Int := [-9223372036854775808, -1, 0, 1, 2, 15, 16, 255, 256, 9223372036854775807]
def smS : List Int := [0, 1, 2, 63, 64, 65]
def smM : List W32 := [0#32, 1#32, 3#32, 2147483648#32, 4294967295#32, 2147483649#32, 1431655765#32]
theorem smS_in : ∀ i, i < 6 → 0 ≤ smS.getD i 0 ∧ smS.getD i 0 ≤ 65 := by decide
theorem smS_nat (i : Nat) (h : i < 6) : ∃ z : Nat, smS.getD i 0 = (z : Int) ∧ z ≤ 65 := ⟨(smS.getD i 0).toNat, by have := smS_in i h; omega, by have := smS_in i h; omega⟩
theorem smS_byte (i : Nat) (h : i < 6) : ∃ v : UInt8, smS.getD i 0 = (v.toNat : Int) ∧ v.toNat ≤ 65 := by
  obtain ⟨z, hz, hl⟩ := smS_nat i h
  have e : (UInt8.ofNat z).toNat = z := by rw [UInt8.toNat_ofNat']; omega
  exact ⟨UInt8.ofNat z, by rw [hz, e], by rw [e]; exact hl⟩
theorem writes_at (v n s : Int) (x : Option Addr) (l : List UInt8) (m cx : Nat) (w : World) (h : l.length = m) (hx : Bts w x l) (hn : x = none → cx = 0) (hl : l.length ≤ 300) :
    Calls Tryd.prog 12 #[.agg #[.int .i64 v, .int .i64 n, .int .i64 s, .slice x m cx]] w fun e w' => e = .returned (.bool true) ∧ Below w.heap.size w w' := by
  subst h; exact writes_any v n s x l cx w hx hn hl
theorem reads_at (x : Option Addr) (l : List UInt8) (m cx : Nat) (w : World) (h : l.length = m) (hx : Bts w x l) (hn : x = none → cx = 0) (hl : l.length ≤ 500) (hcx : l.length ≤ cx ∧ cx ≤ 9223372036854775807) :
    Calls Tryd.prog 18 #[.slice x m cx] w fun e w' => e = .returned (.bool true) ∧ Below w.heap.size w w' := by
  subst h; exact reads_any x l cx w hx hn hl hcx
theorem appendc_at (x : Option Addr) (l : List UInt8) (n c : Nat) (w : World) (h : l.length = n) (hx : Bts w x l) (hl : l.length ≤ 100000) : Calls Tryd.prog 19 #[.slice x n c] w (AppOf l w) := by
  subst h; exact append_any x l c w hx hl
theorem bts_tail {w : World} {g : Nat} {u : UInt8} {l : List UInt8} (hb : Bts w (some ⟨g, 0, none⟩) (u :: l)) : Bts w (some ⟨g, 1, none⟩) l := by
  have := Bts.right (l := [u]) (m := l) (o := 0) (g := g) hb
  simpa using this
def SmRel (w wr : World) : Prop := IntsAt wr w.heap.size smN ∧ IntsAt wr (w.heap.size + 1) smS ∧ Below w.heap.size w wr
def bL : List UInt8 := [0, 255, 129, 24, 7]

theorem burst_at (x : Option Addr) (l : List UInt8) (n c : Nat) (at_ : Int) (m : W32) (mi : Int) (w : World) (h : l.length = n) (hm : n32 m = mi) (hx : Bts w x l) (hn : x = none → c = 0) (hl : l.length ≤ 1000) (hat : -9223372036854775808 ≤ at_ ∧ at_ ≤ 9223372036854775807) (hd : DbAt w) :
    Calls Tryd.prog 21 #[.slice x n c, .int .i64 at_, .int .u32 mi] w (CloneOf (Crc.burst m at_ l) w) := by
  subst h hm; exact burst_any x l c at_ m w hx hn hl hat hd
theorem refburst_at (x : Option Addr) (l : List UInt8) (n c : Nat) (at_ : Int) (m : W32) (w : World) (h : l.length = n) (hx : Bts w x l) (hl : l.length ≤ 1000) (hat : -9223372036854775808 ≤ at_ ∧ at_ ≤ 9223372036854775807) :
    Calls Tryd.prog 22 #[.slice x n c, .int .i64 at_, .int .u32 (n32 m)] w (CloneOf (Crc.burst m at_ l) w) := by
  subst h; exact refburst_any x l c at_ m w hx hl hat
theorem sameb_at (x : Option Addr) (l : List UInt8) (n c : Nat) (y : Option Addr) (m : List UInt8) (k d : Nat) (w : World) (h : l.length = n) (h2 : m.length = k) (hx : Bts w x l) (hy : Bts w y m) (hl : l.length ≤ 1000000) (hm : m.length ≤ 1000000) :
    Calls Tryd.prog 20 #[.slice x n c, .slice y k d] w fun e w' => e = .returned (.bool (l == m)) ∧ Below w.heap.size w w' := by
  subst h h2; exact sameb_any x l c y m d w hx hy hl hm
def BmRel (bm : Nat) (w wr : World) : Prop := WordsAt wr bm smM ∧ Bts wr (some ⟨bm + 1, 0, none⟩) bL ∧ Below w.heap.size w wr

set_option maxRecDepth 100000 in
set_option maxHeartbeats 4000000 in
theorem small17_law (w : World) (hd : DbAt w) : Calls Tryd.prog 5 #[] w (YesOf w) := by
  have hB := Below.refl w.heap.size w
  go_enter Tryd.func5, Tryd.ntmps5
  go_wp2_with fail
  have hN : IntsAt ((w.alloc (Obj.cells #[Value.int .i64 (-9223372036854775808), Value.int .i64 (-1), Value.int .i64 0, Value.int .i64 1, Value.int .i64 2, Value.int .i64 15, Value.int .i64 16, Value.int .i64 255, Value.int .i64 256, Value.int .i64 9223372036854775807] 3)).alloc (Obj.cells #[Value.int .i64 0, Value.int .i64 1, Value.int .i64 2, Value.int .i64 63, Value.int .i64 64, Value.int .i64 65] 3)) w.heap.size smN := (ints_new w smN _ _ rfl).later (al (Below.refl _ _) _)
  have hS : IntsAt ((w.alloc (Obj.cells #[Value.int .i64 (-9223372036854775808), Value.int .i64 (-1), Value.int .i64 0, Value.int .i64 1, Value.int .i64 2, Value.int .i64 15, Value.int .i64 16, Value.int .i64 255, Value.int .i64 256, Value.int .i64 9223372036854775807] 3)).alloc (Obj.cells #[Value.int .i64 0, Value.int .i64 1, Value.int .i64 2, Value.int .i64 63, Value.int .i64 64, Value.int .i64 65] 3)) (w.heap.size + 1) smS := by
    have := ints_new (w.alloc (Obj.cells #[Value.int .i64 (-9223372036854775808), Value.int .i64 (-1), Value.int .i64 0, Value.int .i64 1, Value.int .i64 2, Value.int .i64 15, Value.int .i64 16, Value.int .i64 255, Value.int .i64 256, Value.int .i64 9223372036854775807] 3)) smS #[.int .i64 0, .int .i64 1, .int .i64 2, .int .i64 63, .int .i64 64, .int .i64 65] 3 rfl
    have e : (w.alloc (Obj.cells #[Value.int .i64 (-9223372036854775808), Value.int .i64 (-1), Value.int .i64 0, Value.int .i64 1, Value.int .i64 2, Value.int .i64 15, Value.int .i64 16, Value.int .i64 255, Value.int .i64 256, Value.int .i64 9223372036854775807] 3)).heap.size = w.heap.size + 1 := by simp
    rw [e] at this
    exact this
  replace hB := al (al hB (Obj.cells #[Value.int .i64 (-9223372036854775808), Value.int .i64 (-1), Value.int .i64 0, Value.int .i64 1, Value.int .i64 2, Value.int .i64 15, Value.int .i64 16, Value.int .i64 255, Value.int .i64 256, Value.int .i64 9223372036854775807] 3)) (Obj.cells #[Value.int .i64 0, Value.int .i64 1, Value.int .i64 2, Value.int .i64 63, Value.int .i64 64, Value.int .i64 65] 3)
  go_loopw [3] (fun u3 wr => ∃ i : Nat, i ≤ 10 ∧ u3 = .int .i64 (i : Int) ∧ SmRel w wr) (fun u3 _ => 10 - (intOf u3).toNat)
  case atStart => exact ⟨0, by omega, rfl, hN, hS, hB⟩
  case round =>
    clear hN hS hB
    obtain ⟨i, hi, rfl, hN, hS, hB⟩ := hrel
    by_cases hlt : i < 10
    · have hki : decide ((i : Int) < 10) = true := by simp; omega
      go_wp2_with fail
      go_loopw [4] (fun u4 wr => ∃ j : Nat, j ≤ 10 ∧ u4 = .int .i64 (j : Int) ∧ SmRel w wr) (fun u4 _ => 10 - (intOf u4).toNat)
      case atStart => exact ⟨0, by omega, rfl, hN, hS, hB⟩
      case round =>
        clear hN hS hB
        obtain ⟨j, hj, rfl, hN, hS, hB⟩ := hrel
        by_cases hlt2 : j < 10
        · have hkj : decide ((j : Int) < 10) = true := by simp; omega
          go_wp2_with fail
          go_loopw [5] (fun u5 wr => ∃ m : Nat, m ≤ 6 ∧ u5 = .int .i64 (m : Int) ∧ SmRel w wr) (fun u5 _ => 6 - (intOf u5).toNat)
          case atStart => exact ⟨0, by omega, rfl, hN, hS, hB⟩
          case round =>
            clear hN hS hB
            obtain ⟨m, hm, rfl, hN, hS, hB⟩ := hrel
            by_cases hlt3 : m < 6
            · have hkm : decide ((m : Int) < 6) = true := by simp; omega
              obtain ⟨z, hz, hz65⟩ := smS_nat m hlt3
              have cm := hS m hlt3
              rw [hz] at cm
              have ci := hN i hlt
              have cj := hN j hlt2
              obtain ⟨vi, hvi⟩ : ∃ v, smN.getD i 0 = v := ⟨_, rfl⟩
              obtain ⟨vj, hvj⟩ : ∃ v, smN.getD j 0 = v := ⟨_, rfl⟩
              rw [hvi] at ci
              rw [hvj] at cj
              have hmk := fun W => run_zeros z (by omega) W
              clear hz hvi hvj
              go_wp2_with fail
              have hq := al (Below.refl _ wr) (.cells (zeroB z) 5)
              have yz := (OwnsB.zeros wr.heap.size wr.heap.size z wr (Nat.le_refl _) rfl (by omega)).bts
              obtain ⟨g, hg⟩ : ∃ g, wr.heap.size = g := ⟨_, rfl⟩
              rw [hg] at yz
              replace hN := hN.later hq
              replace hS := hS.later hq
              replace ci := later hq ci
              replace cj := later hq cj
              replace hB := thru hB hq
              obtain ⟨V0, hV0⟩ : ∃ X, wr.alloc (.cells (zeroB z) 5) = X := ⟨_, rfl⟩
              rw [hV0] at hN hS ci cj hB yz ⊢
              rw [hg]
              clear hV0 hq cm hmk hg
              refine wp_region_sched (fun W => W.cell? ⟨w.heap.size, i, none⟩ = some (.int .i64 vi) ∧ W.cell? ⟨w.heap.size, j, none⟩ = some (.int .i64 vj) ∧ IntsAt W w.heap.size smN ∧ IntsAt W (w.heap.size + 1) smS ∧ Bts W (some ⟨g, 0, none⟩) (List.replicate z 0) ∧ Below w.heap.size w W) (.one [0, 1, 2, 3, 4, 5, 6, 7, 8, 9] 10 (.one [11, 12, 13, 14, 15, 16, 17, 18, 19, 20, 21, 22] 23 (.done [24, 25]))) (by kernel_rfl) (by kernel_rfl) (fun _ _ _ _ _ h => h) ⟨(by go_simp), (by go_simp), hN, hS, yz, hB.drew⟩ ?_
              clear hB ci cj hN hS yz
              rintro Q ⟨g1_0, g1_1, hN, hS, yz, hB⟩
              rw [wpSched]
              simp only [pick, List.map_cons, List.map_nil, Array.getD_eq_getD_getElem?, List.getElem?_toArray, List.getElem?_cons_succ, List.getElem?_cons_zero, Option.getD_some]
              have kg1_0 := plusW_cell g1_0
              have kg1_1 := plusW_cell g1_1
              repeat (first | go_big_quiet_step (fail) | quiet_step (fail))
              refine wpQuiet_nil ?_
              clear kg1_0 kg1_1
              refine heavy_want (by rfl) (fun K' hK' => ?_)
              go_simp
              refine (writes_at vi vj 1 (some ⟨g, 0, none⟩) (List.replicate z 0) z z _ (by simp) yz (fun h => by cases h) (by simp; omega)).mono ?_
              rintro e Q1 ⟨rfl, hb⟩
              refine hK' _ _ hb ?_
              clear hK' K'
              have hq := thru (Below.refl _ Q) hb
              clear hb
              have g2_0 := later hq g1_0
              have g2_1 := later hq g1_1
              replace hB := thru hB hq
              replace hN := hN.later hq
              replace hS := hS.later hq
              replace yz := yz.later hq
              clear hq g1_0 g1_1
              try simp only [Act.put, List.setIfInBounds_toArray, List.set_cons_zero, List.set_cons_succ]
              rw [wpSched]
              simp only [pick, List.map_cons, List.map_nil, Array.getD_eq_getD_getElem?, List.getElem?_toArray, List.getElem?_cons_succ, List.getElem?_cons_zero, Option.getD_some]
              have kg2_0 := plusW_cell g2_0
              have kg2_1 := plusW_cell g2_1
              repeat (first | go_big_quiet_step (fail) | quiet_step (fail))
              refine wpQuiet_nil ?_
              clear kg2_0 kg2_1
              refine heavy_want (by rfl) (fun K' hK' => ?_)
              go_simp
              refine (writes_at 1 vi vj (some ⟨g, 0, none⟩) (List.replicate z 0) z z _ (by simp) yz (fun h => by cases h) (by simp; omega)).mono ?_
              rintro e Q2 ⟨rfl, hb⟩
              refine hK' _ _ hb ?_
              clear hK' K'
              have hq := thru (Below.refl _ Q1) hb
              clear hb
              have g3_0 := later hq g2_0
              have g3_1 := later hq g2_1
              replace hB := thru hB hq
              replace hN := hN.later hq
              replace hS := hS.later hq
              replace yz := yz.later hq
              clear hq g2_0 g2_1
              try simp only [Act.put, List.setIfInBounds_toArray, List.set_cons_zero, List.set_cons_succ]
              rw [wpSched]
              simp only [pick, List.map_cons, List.map_nil, Array.getD_eq_getD_getElem?, List.getElem?_toArray, List.getElem?_cons_succ, List.getElem?_cons_zero, Option.getD_some]
              repeat (first | go_big_quiet_step (fail) | quiet_step (fail))
              refine wpQuiet_nil ?_
              go_wp2_with fail
              exact ⟨⟨m + 1, by omega, by go_num, hN, hS, hB⟩, by simp [intOf]; omega⟩
            · obtain rfl : m = 6 := by omega
              have hkm : decide ((6 : Int) < 6) = false := by decide
              go_wp2_with fail
              exact ⟨⟨j + 1, by omega, by go_num, hN, hS, hB⟩, by simp [intOf]; omega⟩
        · obtain rfl : j = 10 := by omega
          go_wp2_with fail
          exact ⟨⟨i + 1, by omega, by go_num, hN, hS, hB⟩, by simp [intOf]; omega⟩
    · obtain rfl : i = 10 := by omega
      rw [show ((10 : Nat) : Int) = 10 from rfl]
      go_wp2_with fail
      go_loopw [7] (fun u7 wr => ∃ n : Nat, n ≤ 1080 ∧ u7 = .int .i64 (n : Int) ∧ SmRel w wr) (fun u7 _ => 1080 - (intOf u7).toNat)
      case atStart => exact ⟨0, by omega, rfl, hN, hS, hB⟩
      case round =>
        clear hN hS hB
        obtain ⟨n, hn, rfl, hN, hS, hB⟩ := hrel
        by_cases hlt : n < 1080
        · have hkn : decide ((n : Int) < 1080) = true := by simp; omega
          obtain ⟨i5, hi5⟩ : ∃ k, n % 5 = k := ⟨_, rfl⟩
          have li5 : i5 < 5 := by omega
          have e5 : (n : Int) % 5 = (i5 : Int) := by omega
          have e5t : (n : Int).tmod 5 = (i5 : Int) := by rw [Int.tmod_eq_emod_of_nonneg (by omega)]; omega
          obtain ⟨n5, hn5⟩ : ∃ k, n / 5 = k := ⟨_, rfl⟩
          have d5 : (n : Int) / 5 = (n5 : Int) := by omega
          have d5t : (n : Int).tdiv 5 = (n5 : Int) := by rw [Int.tdiv_eq_ediv_of_nonneg (by omega)]; omega
          obtain ⟨i4, hi4⟩ : ∃ k, n5 % 4 = k := ⟨_, rfl⟩
          have li4 : i4 < 4 := by omega
          have e4 : (n5 : Int) % 4 = (i4 : Int) := by omega
          have e4t : (n5 : Int).tmod 4 = (i4 : Int) := by rw [Int.tmod_eq_emod_of_nonneg (by omega)]; omega
          obtain ⟨n20, hn20⟩ : ∃ k, n / 20 = k := ⟨_, rfl⟩
          have d20 : (n : Int) / 20 = (n20 : Int) := by omega
          have d20t : (n : Int).tdiv 20 = (n20 : Int) := by rw [Int.tdiv_eq_ediv_of_nonneg (by omega)]; omega
          obtain ⟨i3, hi3⟩ : ∃ k, n20 % 3 = k := ⟨_, rfl⟩
          have li3 : i3 < 3 := by omega
          have e3 : (n20 : Int) % 3 = (i3 : Int) := by omega
          have e3t : (n20 : Int).tmod 3 = (i3 : Int) := by rw [Int.tmod_eq_emod_of_nonneg (by omega)]; omega
          obtain ⟨n60, hn60⟩ : ∃ k, n / 60 = k := ⟨_, rfl⟩
          have d60 : (n : Int) / 60 = (n60 : Int) := by omega
          have d60t : (n : Int).tdiv 60 = (n60 : Int) := by rw [Int.tdiv_eq_ediv_of_nonneg (by omega)]; omega
          obtain ⟨i6, hi6⟩ : ∃ k, n60 % 6 = k := ⟨_, rfl⟩
          have li6 : i6 < 6 := by omega
          have e6 : (n60 : Int) % 6 = (i6 : Int) := by omega
          have e6t : (n60 : Int).tmod 6 = (i6 : Int) := by rw [Int.tmod_eq_emod_of_nonneg (by omega)]; omega
          obtain ⟨q, hq360⟩ : ∃ k, n / 360 = k := ⟨_, rfl⟩
          have d360 : (n : Int) / 360 = (q : Int) := by omega
          have d360t : (n : Int).tdiv 360 = (q : Int) := by rw [Int.tdiv_eq_ediv_of_nonneg (by omega)]; omega
          have hq3 : q ≤ 2 := by omega
          obtain ⟨v5, hv5⟩ : ∃ v : UInt8, (#[.int .u8 0, .int .u8 15, .int .u8 16, .int .u8 128, .int .u8 255] : Array Value)[i5]? = some (.int .u8 (v.toNat : Int)) := by
            rcases (show i5 = 0 ∨ i5 = 1 ∨ i5 = 2 ∨ i5 = 3 ∨ i5 = 4 by omega) with rfl | rfl | rfl | rfl | rfl
            · exact ⟨0, rfl⟩
            · exact ⟨15, rfl⟩
            · exact ⟨16, rfl⟩
            · exact ⟨128, rfl⟩
            · exact ⟨255, rfl⟩
          obtain ⟨v4, hv4⟩ : ∃ v : UInt8, (#[.int .u8 0, .int .u8 1, .int .u8 2, .int .u8 255] : Array Value)[i4]? = some (.int .u8 (v.toNat : Int)) := by
            rcases (show i4 = 0 ∨ i4 = 1 ∨ i4 = 2 ∨ i4 = 3 by omega) with rfl | rfl | rfl | rfl
            · exact ⟨0, rfl⟩
            · exact ⟨1, rfl⟩
            · exact ⟨2, rfl⟩
            · exact ⟨255, rfl⟩
          obtain ⟨v3, hv3⟩ : ∃ v : UInt8, (#[.int .u8 0, .int .u8 1, .int .u8 255] : Array Value)[i3]? = some (.int .u8 (v.toNat : Int)) := by
            rcases (show i3 = 0 ∨ i3 = 1 ∨ i3 = 2 by omega) with rfl | rfl | rfl
            · exact ⟨0, rfl⟩
            · exact ⟨1, rfl⟩
            · exact ⟨255, rfl⟩
          obtain ⟨v6, hv6, hv65⟩ := smS_byte i6 li6
          have c6 := hS i6 li6
          rw [hv6] at c6
          obtain ⟨k, hk⟩ : ∃ k, v6.toNat + q - 1 = k := ⟨_, rfl⟩
          have hk70 : k ≤ 70 := by omega
          have hmax : ∀ (ts : Array TypeId) (t : TypeId) (W : World), (Builtin.max_ ts t #[.int .i64 ((v6.toNat : Int) + (q : Int) - 1), .int .i64 0]).run Tryd.prog W = .ok (.int .i64 (k : Int)) W := fun ts t W => by
            have e : (k : Int) = if ((v6.toNat : Int) + (q : Int) - 1) < 0 then 0 else ((v6.toNat : Int) + (q : Int) - 1) := by split <;> omega
            rw [e]
            simp [Builtin.max_, Builtin.max2]
          obtain ⟨l7, hl7⟩ : ∃ t, [v5, v4, v3, v6] ++ List.replicate k (0 : UInt8) = t := ⟨_, rfl⟩
          have hl7n : 4 ≤ l7.length ∧ l7.length ≤ 80 := by rw [← hl7]; simp; omega
          obtain ⟨l8, hl8⟩ : ∃ t, l7 ++ Crc.trailer (Crc.sum l7) = t := ⟨_, rfl⟩
          have hl8n : 8 ≤ l8.length ∧ l8.length ≤ 84 := by rw [← hl8, List.length_append, Crc.trailer_length]; omega
          obtain ⟨m8, hm8⟩ : ∃ m, l8.length - 1 = m := ⟨_, rfl⟩
          have hw8 : (l8.length : Int) - 1 = (m8 : Int) := by omega
          have HK8 := Lib.hid (show (l8.take m8).length = m8 by simp; omega)
          obtain ⟨u8, t8, hut⟩ : ∃ u t, l8 = u :: t := by
            cases l8 with
            | nil => simp at hl8n
            | cons u t => exact ⟨u, t, rfl⟩
          have HU8 := Lib.hid hut
          have HT8 := Lib.hid (show t8.length = l8.length - 1 by rw [hut]; simp)
          have HL7 := Lib.hid hl7
          have HL8 := Lib.hid hl8
          obtain ⟨l9, hl9⟩ : ∃ t, l8 ++ [(0 : UInt8)] = t := ⟨_, rfl⟩
          have hl9n : l9.length ≤ 90 := by rw [← hl9]; simp; omega
          have HL9 := Lib.hid hl9
          clear hv6 hk hl7 hl8 hm8 hut hl9 hn5 hn20 hn60 hi5 hi4 hi3 hi6 hq360
          go_wp2_with fail
          refine wp_region_sched (fun W => W.cell? ⟨w.heap.size + 1, i6, none⟩ = some (.int .i64 (v6.toNat : Int)) ∧ IntsAt W w.heap.size smN ∧ IntsAt W (w.heap.size + 1) smS ∧ Below w.heap.size w W) (.three [1, 2, 6, 7, 8, 12, 13, 14, 17, 18, 19, 20, 21, 22, 23] 0 (.two [3, 4] 5 (.one [9, 10] 11 (.one [15, 16] 24 (.done [25]))) 11 (.one [15, 16] 5 (.one [9, 10] 24 (.done [25])))) 5 (.two [9, 10] 0 (.one [3, 4] 11 (.one [15, 16] 24 (.done [25]))) 11 (.one [15, 16] 0 (.one [3, 4] 24 (.done [25])))) 11 (.two [15, 16] 0 (.one [3, 4] 5 (.one [9, 10] 24 (.done [25]))) 5 (.one [9, 10] 0 (.one [3, 4] 24 (.done [25]))))) (by kernel_rfl) (by kernel_rfl) (fun _ _ _ _ _ h => h) ⟨(by go_simp), hN, hS, hB.drew⟩ ?_
          clear hB c6 hN hS
          rintro V0 ⟨g1_0, hN, hS, hB⟩
          rw [wpSched]
          simp only [pick, List.map_cons, List.map_nil, Array.getD_eq_getD_getElem?, List.getElem?_toArray, List.getElem?_cons_succ, List.getElem?_cons_zero, Option.getD_some]
          have kg1_0 := plusW_cell g1_0
          repeat (first | go_big_quiet_step (fail) | quiet_step (fail))
          refine wpQuiet_nil ?_
          clear kg1_0
          refine ⟨?_, ?_, ?_⟩
          · refine heavy_want (by rfl) (fun K' hK' => ?_)
            go_simp
            refine hK' _ _ (al (Below.refl _ _) _) ?_
            clear hK' K'
            have hq := al (Below.refl _ V0) (.cells #[.int .u8 0, .int .u8 15, .int .u8 16, .int .u8 128, .int .u8 255] 5)
            have fr := cell_lit hv5 V0 5
            obtain ⟨A1, hw2⟩ : ∃ X : World, V0.alloc (.cells #[.int .u8 0, .int .u8 15, .int .u8 16, .int .u8 128, .int .u8 255] 5) = X := ⟨_, rfl⟩
            rw [hw2] at hq fr
            rw [hw2]
            clear hw2
            have g2_0 := later hq g1_0
            replace hB := thru hB hq
            replace hN := hN.later hq
            replace hS := hS.later hq
            clear hq g1_0
            have r5 := fr
            clear fr
            try simp only [Act.put, List.setIfInBounds_toArray, List.set_cons_zero, List.set_cons_succ]
            rw [wpSched]
            simp only [pick, List.map_cons, List.map_nil, Array.getD_eq_getD_getElem?, List.getElem?_toArray, List.getElem?_cons_succ, List.getElem?_cons_zero, Option.getD_some]
            have kr5 := plusW_cell r5
            repeat (first | go_big_quiet_step (fail) | quiet_step (fail))
            refine wpQuiet_nil ?_
            clear kr5
            refine ⟨?_, ?_⟩
            · refine heavy_want (by rfl) (fun K' hK' => ?_)
              go_simp
              refine hK' _ _ (al (Below.refl _ _) _) ?_
              clear hK' K'
              have hq := al (Below.refl _ A1) (.cells #[.int .u8 0, .int .u8 1, .int .u8 2, .int .u8 255] 5)
              have fr := cell_lit hv4 A1 5
              obtain ⟨A2, hw2⟩ : ∃ X : World, A1.alloc (.cells #[.int .u8 0, .int .u8 1, .int .u8 2, .int .u8 255] 5) = X := ⟨_, rfl⟩
              rw [hw2] at hq fr
              rw [hw2]
              clear hw2
              have g3_0 := later hq g2_0
              have g3_1 := later hq r5
              replace hB := thru hB hq
              replace hN := hN.later hq
              replace hS := hS.later hq
              clear hq g2_0 r5
              have r4 := fr
              clear fr
              try simp only [Act.put, List.setIfInBounds_toArray, List.set_cons_zero, List.set_cons_succ]
              rw [wpSched]
              simp only [pick, List.map_cons, List.map_nil, Array.getD_eq_getD_getElem?, List.getElem?_toArray, List.getElem?_cons_succ, List.getElem?_cons_zero, Option.getD_some]
              have kr4 := plusW_cell r4
              repeat (first | go_big_quiet_step (fail) | quiet_step (fail))
              refine wpQuiet_nil ?_
              clear kr4
              refine heavy_want (by rfl) (fun K' hK' => ?_)
              go_simp
              refine hK' _ _ (al (Below.refl _ _) _) ?_
              clear hK' K'
              have hq := al (Below.refl _ A2) (.cells #[.int .u8 0, .int .u8 1, .int .u8 255] 5)
              have fr := cell_lit hv3 A2 5
              obtain ⟨A3, hw2⟩ : ∃ X : World, A2.alloc (.cells #[.int .u8 0, .int .u8 1, .int .u8 255] 5) = X := ⟨_, rfl⟩
              rw [hw2] at hq fr
              rw [hw2]
              clear hw2
              have g4_0 := later hq g3_0
              have g4_1 := later hq g3_1
              have g4_2 := later hq r4
              replace hB := thru hB hq
              replace hN := hN.later hq
              replace hS := hS.later hq
              clear hq g3_0 g3_1 r4
              have r3 := fr
              clear fr
              try simp only [Act.put, List.setIfInBounds_toArray, List.set_cons_zero, List.set_cons_succ]
              rw [wpSched]
              simp only [pick, List.map_cons, List.map_nil, Array.getD_eq_getD_getElem?, List.getElem?_toArray, List.getElem?_cons_succ, List.getElem?_cons_zero, Option.getD_some]
              have kr3 := plusW_cell r3
              repeat (first | go_big_quiet_step (fail) | quiet_step (fail))
              refine wpQuiet_nil ?_
              clear kr3
              refine heavy_want (by rfl) (fun K' hK' => ?_)
              go_simp
              refine hK' _ _ (al (Below.refl _ _) _) ?_
              clear hK' K'
              have hq := al (Below.refl _ A3) (.cells #[.int .u8 (v5.toNat : Int), .int .u8 (v4.toNat : Int), .int .u8 (v3.toNat : Int), .int .u8 (v6.toNat : Int)] 5)
              have yb := bts_new A3 [v5, v4, v3, v6] 5 (0, 0)
              replace yb : Bts (A3.alloc (.cells #[.int .u8 (v5.toNat : Int), .int .u8 (v4.toNat : Int), .int .u8 (v3.toNat : Int), .int .u8 (v6.toNat : Int)] 5)) (some ⟨A3.heap.size, 0, none⟩) [v5, v4, v3, v6] := yb
              obtain ⟨A4, hw2⟩ : ∃ X : World, A3.alloc (.cells #[.int .u8 (v5.toNat : Int), .int .u8 (v4.toNat : Int), .int .u8 (v3.toNat : Int), .int .u8 (v6.toNat : Int)] 5) = X := ⟨_, rfl⟩
              rw [hw2] at hq yb
              rw [hw2]
              clear hw2
              have g5_0 := later hq g4_0
              replace hB := thru hB hq
              replace hN := hN.later hq
              replace hS := hS.later hq
              clear hq g4_0
              try simp only [Act.put, List.setIfInBounds_toArray, List.set_cons_zero, List.set_cons_succ]
              rw [wpSched]
              simp only [pick, List.map_cons, List.map_nil, Array.getD_eq_getD_getElem?, List.getElem?_toArray, List.getElem?_cons_succ, List.getElem?_cons_zero, Option.getD_some]
              repeat (first | go_big_quiet_step (fail) | quiet_step (fail))
              refine wpQuiet_nil ?_
              go_wp2_with (at_builtin; refine wpList_app_zeros rfl _ _ rfl (l := [v5, v4, v3, v6]) rfl yb k rfl (by simp; omega) HL7.out ?_; intro x7 c7 w7 h1 h2; refine Hid.out ?_)
              unfold Hid
              replace hN := hN.later h2
              replace hS := hS.later h2
              replace hB := thru hB h2
              have HZ7 := Lib.hid (World.block_lt_of_cell? _ _ (hS 0 (by decide)))
              clear h2 yb
              go_wp2_with fail
              refine (append_any x7 l7 c7 _ h1 (by omega)).mono ?_
              rintro e w8 ⟨x8, c8, rfl, ho, hb⟩
              rw [HL8.out] at ho ⊢
              obtain ⟨g8, rfl⟩ := own_some ho (by omega)
              have cap8 := ho.le_cap
              replace hN := hN.later hb
              replace hS := hS.later hb
              replace hB := thru hB hb
              have hlow := (ho.low g8 rfl).1
              clear hb h1
              go_wp2_with fail
              refine (reads_any (some ⟨g8, 0, none⟩) l8 c8 _ ho.bts (fun h => by cases h) (by omega) cap8).mono ?_
              rintro e w9 ⟨rfl, hb⟩
              replace hN := hN.later hb
              replace hS := hS.later hb
              replace hB := thru hB hb
              replace ho := ho.later hb
              clear hb
              go_wp2_with fail
              refine (reads_at (some ⟨g8, 1, none⟩) t8 _ _ _ HT8.out (bts_tail (HU8.out ▸ ho.bts)) (fun h => by cases h) (by have := HT8.out; omega) ⟨by have := HT8.out; omega, by omega⟩).mono ?_
              rintro e w10 ⟨rfl, hb⟩
              replace hN := hN.later hb
              replace hS := hS.later hb
              replace hB := thru hB hb
              replace ho := ho.later hb
              clear hb
              go_wp2_with fail
              refine (reads_at (some ⟨g8, 0, none⟩) (l8.take m8) _ _ _ HK8.out (ho.bts.take m8) (fun h => by cases h) (by rw [HK8.out]; omega) ⟨by rw [HK8.out]; omega, cap8.2⟩).mono ?_
              rintro e w11 ⟨rfl, hb⟩
              replace hN := hN.later hb
              replace hS := hS.later hb
              replace hB := thru hB hb
              replace ho := ho.later hb
              clear hb
              have hz9 : w7.heap.size ≤ w11.heap.size := by have := ho.low g8 rfl; omega
              have hzS : w.heap.size + 1 < w7.heap.size := HZ7.out
              go_wp2_with (at_builtin; refine wpList_app_w (by rfl) _ _ rfl (B := w7.heap.size) (l := l8) (y := some ⟨w11.heap.size, 0, none⟩) (m := [0]) (ho.turn ((Turns.refl (fun _ => False) w11).alloc _) (fun _ _ h => h)) rfl rfl (bts_one w11 0 _ _) (fun h => by cases h) (by simp; omega) HL9.out (by simp; omega) ?_; intro x9 c9 w12 h1 h2 _; refine Hid.out ?_)
              unfold Hid
              replace hN := (hN.later (al (Below.refl _ _) _)).low h2 (by omega)
              replace hS := (hS.later (al (Below.refl _ _) _)).low h2 (by omega)
              replace hB := (al hB _).trans (h2.mono (by omega))
              clear h2 ho
              go_wp2_with fail
              refine (reads_any x9 l9 c9 _ h1.bts h1.none_cap (by omega) h1.le_cap).mono ?_
              rintro e w13 ⟨rfl, hb⟩
              replace hN := hN.later hb
              replace hS := hS.later hb
              replace hB := thru hB hb
              clear hb h1
              go_wp2_with fail
              go_roundw
              case rel => exact ⟨n + 1, by omega, by go_num, hN, hS, hB⟩
              case measure => simp [intOf]; omega
            · refine heavy_want (by rfl) (fun K' hK' => ?_)
              go_simp
              refine hK' _ _ (al (Below.refl _ _) _) ?_
              clear hK' K'
              have hq := al (Below.refl _ A1) (.cells #[.int .u8 0, .int .u8 1, .int .u8 255] 5)
              have fr := cell_lit hv3 A1 5
              obtain ⟨A5, hw2⟩ : ∃ X : World, A1.alloc (.cells #[.int .u8 0, .int .u8 1, .int .u8 255] 5) = X := ⟨_, rfl⟩
              rw [hw2] at hq fr
              rw [hw2]
              clear hw2
              have g3_0 := later hq g2_0
              have g3_1 := later hq r5
              replace hB := thru hB hq
              replace hN := hN.later hq
              replace hS := hS.later hq
              clear hq g2_0 r5
              have r3 := fr
              clear fr
              try simp only [Act.put, List.setIfInBounds_toArray, List.set_cons_zero, List.set_cons_succ]
              rw [wpSched]
              simp only [pick, List.map_cons, List.map_nil, Array.getD_eq_getD_getElem?, List.getElem?_toArray, List.getElem?_cons_succ, List.getElem?_cons_zero, Option.getD_some]
              have kr3 := plusW_cell r3
              repeat (first | go_big_quiet_step (fail) | quiet_step (fail))
              refine wpQuiet_nil ?_
              clear kr3
              refine heavy_want (by rfl) (fun K' hK' => ?_)
              go_simp
              refine hK' _ _ (al (Below.refl _ _) _) ?_
              clear hK' K'
              have hq := al (Below.refl _ A5) (.cells #[.int .u8 0, .int .u8 1, .int .u8 2, .int .u8 255] 5)
              have fr := cell_lit hv4 A5 5
              obtain ⟨A6, hw2⟩ : ∃ X : World, A5.alloc (.cells #[.int .u8 0, .int .u8 1, .int .u8 2, .int .u8 255] 5) = X := ⟨_, rfl⟩
              rw [hw2] at hq fr
              rw [hw2]
              clear hw2
              have g4_0 := later hq g3_0
              have g4_1 := later hq g3_1
              have g4_2 := later hq r3
              replace hB := thru hB hq
              replace hN := hN.later hq
              replace hS := hS.later hq
              clear hq g3_0 g3_1 r3
              have r4 := fr
              clear fr
              try simp only [Act.put, List.setIfInBounds_toArray, List.set_cons_zero, List.set_cons_succ]
              rw [wpSched]
              simp only [pick, List.map_cons, List.map_nil, Array.getD_eq_getD_getElem?, List.getElem?_toArray, List.getElem?_cons_succ, List.getElem?_cons_zero, Option.getD_some]
              have kr4 := plusW_cell r4
              repeat (first | go_big_quiet_step (fail) | quiet_step (fail))
              refine wpQuiet_nil ?_
              clear kr4
              refine heavy_want (by rfl) (fun K' hK' => ?_)
              go_simp
              refine hK' _ _ (al (Below.refl _ _) _) ?_
              clear hK' K'
              have hq := al (Below.refl _ A6) (.cells #[.int .u8 (v5.toNat : Int), .int .u8 (v4.toNat : Int), .int .u8 (v3.toNat : Int), .int .u8 (v6.toNat : Int)] 5)
              have yb := bts_new A6 [v5, v4, v3, v6] 5 (0, 0)
              replace yb : Bts (A6.alloc (.cells #[.int .u8 (v5.toNat : Int), .int .u8 (v4.toNat : Int), .int .u8 (v3.toNat : Int), .int .u8 (v6.toNat : Int)] 5)) (some ⟨A6.heap.size, 0, none⟩) [v5, v4, v3, v6] := yb
              obtain ⟨A7, hw2⟩ : ∃ X : World, A6.alloc (.cells #[.int .u8 (v5.toNat : Int), .int .u8 (v4.toNat : Int), .int .u8 (v3.toNat : Int), .int .u8 (v6.toNat : Int)] 5) = X := ⟨_, rfl⟩
              rw [hw2] at hq yb
              rw [hw2]
              clear hw2
              have g5_0 := later hq g4_0
              replace hB := thru hB hq
              replace hN := hN.later hq
              replace hS := hS.later hq
              clear hq g4_0
              try simp only [Act.put, List.setIfInBounds_toArray, List.set_cons_zero, List.set_cons_succ]
              rw [wpSched]
              simp only [pick, List.map_cons, List.map_nil, Array.getD_eq_getD_getElem?, List.getElem?_toArray, List.getElem?_cons_succ, List.getElem?_cons_zero, Option.getD_some]
              repeat (first | go_big_quiet_step (fail) | quiet_step (fail))
              refine wpQuiet_nil ?_
              go_wp2_with (at_builtin; refine wpList_app_zeros rfl _ _ rfl (l := [v5, v4, v3, v6]) rfl yb k rfl (by simp; omega) HL7.out ?_; intro x7 c7 w7 h1 h2; refine Hid.out ?_)
              unfold Hid
              replace hN := hN.later h2
              replace hS := hS.later h2
              replace hB := thru hB h2
              have HZ7 := Lib.hid (World.block_lt_of_cell? _ _ (hS 0 (by decide)))
              clear h2 yb
              go_wp2_with fail
              refine (append_any x7 l7 c7 _ h1 (by omega)).mono ?_
              rintro e w8 ⟨x8, c8, rfl, ho, hb⟩
              rw [HL8.out] at ho ⊢
              obtain ⟨g8, rfl⟩ := own_some ho (by omega)
              have cap8 := ho.le_cap
              replace hN := hN.later hb
              replace hS := hS.later hb
              replace hB := thru hB hb
              have hlow := (ho.low g8 rfl).1
              clear hb h1
              go_wp2_with fail
              refine (reads_any (some ⟨g8, 0, none⟩) l8 c8 _ ho.bts (fun h => by cases h) (by omega) cap8).mono ?_
              rintro e w9 ⟨rfl, hb⟩
              replace hN := hN.later hb
              replace hS := hS.later hb
              replace hB := thru hB hb
              replace ho := ho.later hb
              clear hb
              go_wp2_with fail
              refine (reads_at (some ⟨g8, 1, none⟩) t8 _ _ _ HT8.out (bts_tail (HU8.out ▸ ho.bts)) (fun h => by cases h) (by have := HT8.out; omega) ⟨by have := HT8.out; omega, by omega⟩).mono ?_
              rintro e w10 ⟨rfl, hb⟩
              replace hN := hN.later hb
              replace hS := hS.later hb
              replace hB := thru hB hb
              replace ho := ho.later hb
              clear hb
              go_wp2_with fail
              refine (reads_at (some ⟨g8, 0, none⟩) (l8.take m8) _ _ _ HK8.out (ho.bts.take m8) (fun h => by cases h) (by rw [HK8.out]; omega) ⟨by rw [HK8.out]; omega, cap8.2⟩).mono ?_
              rintro e w11 ⟨rfl, hb⟩
              replace hN := hN.later hb
              replace hS := hS.later hb
              replace hB := thru hB hb
              replace ho := ho.later hb
              clear hb
              have hz9 : w7.heap.size ≤ w11.heap.size := by have := ho.low g8 rfl; omega
              have hzS : w.heap.size + 1 < w7.heap.size := HZ7.out
              go_wp2_with (at_builtin; refine wpList_app_w (by rfl) _ _ rfl (B := w7.heap.size) (l := l8) (y := some ⟨w11.heap.size, 0, none⟩) (m := [0]) (ho.turn ((Turns.refl (fun _ => False) w11).alloc _) (fun _ _ h => h)) rfl rfl (bts_one w11 0 _ _) (fun h => by cases h) (by simp; omega) HL9.out (by simp; omega) ?_; intro x9 c9 w12 h1 h2 _; refine Hid.out ?_)
              unfold Hid
              replace hN := (hN.later (al (Below.refl _ _) _)).low h2 (by omega)
              replace hS := (hS.later (al (Below.refl _ _) _)).low h2 (by omega)
              replace hB := (al hB _).trans (h2.mono (by omega))
              clear h2 ho
              go_wp2_with fail
              refine (reads_any x9 l9 c9 _ h1.bts h1.none_cap (by omega) h1.le_cap).mono ?_
              rintro e w13 ⟨rfl, hb⟩
              replace hN := hN.later hb
              replace hS := hS.later hb
              replace hB := thru hB hb
              clear hb h1
              go_wp2_with fail
              go_roundw
              case rel => exact ⟨n + 1, by omega, by go_num, hN, hS, hB⟩
              case measure => simp [intOf]; omega
          · refine heavy_want (by rfl) (fun K' hK' => ?_)
            go_simp
            refine hK' _ _ (al (Below.refl _ _) _) ?_
            clear hK' K'
            have hq := al (Below.refl _ V0) (.cells #[.int .u8 0, .int .u8 1, .int .u8 2, .int .u8 255] 5)
            have fr := cell_lit hv4 V0 5
            obtain ⟨A8, hw2⟩ : ∃ X : World, V0.alloc (.cells #[.int .u8 0, .int .u8 1, .int .u8 2, .int .u8 255] 5) = X := ⟨_, rfl⟩
            rw [hw2] at hq fr
            rw [hw2]
            clear hw2
            have g2_0 := later hq g1_0
            replace hB := thru hB hq
            replace hN := hN.later hq
            replace hS := hS.later hq
            clear hq g1_0
            have r4 := fr
            clear fr
            try simp only [Act.put, List.setIfInBounds_toArray, List.set_cons_zero, List.set_cons_succ]
            rw [wpSched]
            simp only [pick, List.map_cons, List.map_nil, Array.getD_eq_getD_getElem?, List.getElem?_toArray, List.getElem?_cons_succ, List.getElem?_cons_zero, Option.getD_some]
            have kr4 := plusW_cell r4
            repeat (first | go_big_quiet_step (fail) | quiet_step (fail))
            refine wpQuiet_nil ?_
            clear kr4
            refine ⟨?_, ?_⟩
            · refine heavy_want (by rfl) (fun K' hK' => ?_)
              go_simp
              refine hK' _ _ (al (Below.refl _ _) _) ?_
              clear hK' K'
              have hq := al (Below.refl _ A8) (.cells #[.int .u8 0, .int .u8 15, .int .u8 16, .int .u8 128, .int .u8 255] 5)
              have fr := cell_lit hv5 A8 5
              obtain ⟨A9, hw2⟩ : ∃ X : World, A8.alloc (.cells #[.int .u8 0, .int .u8 15, .int .u8 16, .int .u8 128, .int .u8 255] 5) = X := ⟨_, rfl⟩
              rw [hw2] at hq fr
              rw [hw2]
              clear hw2
              have g3_0 := later hq g2_0
              have g3_1 := later hq r4
              replace hB := thru hB hq
              replace hN := hN.later hq
              replace hS := hS.later hq
              clear hq g2_0 r4
              have r5 := fr
              clear fr
              try simp only [Act.put, List.setIfInBounds_toArray, List.set_cons_zero, List.set_cons_succ]
              rw [wpSched]
              simp only [pick, List.map_cons, List.map_nil, Array.getD_eq_getD_getElem?, List.getElem?_toArray, List.getElem?_cons_succ, List.getElem?_cons_zero, Option.getD_some]
              have kr5 := plusW_cell r5
              repeat (first | go_big_quiet_step (fail) | quiet_step (fail))
              refine wpQuiet_nil ?_
              clear kr5
              refine heavy_want (by rfl) (fun K' hK' => ?_)
              go_simp
              refine hK' _ _ (al (Below.refl _ _) _) ?_
              clear hK' K'
              have hq := al (Below.refl _ A9) (.cells #[.int .u8 0, .int .u8 1, .int .u8 255] 5)
              have fr := cell_lit hv3 A9 5
              obtain ⟨A10, hw2⟩ : ∃ X : World, A9.alloc (.cells #[.int .u8 0, .int .u8 1, .int .u8 255] 5) = X := ⟨_, rfl⟩
              rw [hw2] at hq fr
              rw [hw2]
              clear hw2
              have g4_0 := later hq g3_0
              have g4_1 := later hq g3_1
              have g4_2 := later hq r5
              replace hB := thru hB hq
              replace hN := hN.later hq
              replace hS := hS.later hq
              clear hq g3_0 g3_1 r5
              have r3 := fr
              clear fr
              try simp only [Act.put, List.setIfInBounds_toArray, List.set_cons_zero, List.set_cons_succ]
              rw [wpSched]
              simp only [pick, List.map_cons, List.map_nil, Array.getD_eq_getD_getElem?, List.getElem?_toArray, List.getElem?_cons_succ, List.getElem?_cons_zero, Option.getD_some]
              have kr3 := plusW_cell r3
              repeat (first | go_big_quiet_step (fail) | quiet_step (fail))
              refine wpQuiet_nil ?_
              clear kr3
              refine heavy_want (by rfl) (fun K' hK' => ?_)
              go_simp
              refine hK' _ _ (al (Below.refl _ _) _) ?_
              clear hK' K'
              have hq := al (Below.refl _ A10) (.cells #[.int .u8 (v5.toNat : Int), .int .u8 (v4.toNat : Int), .int .u8 (v3.toNat : Int), .int .u8 (v6.toNat : Int)] 5)
              have yb := bts_new A10 [v5, v4, v3, v6] 5 (0, 0)
              replace yb : Bts (A10.alloc (.cells #[.int .u8 (v5.toNat : Int), .int .u8 (v4.toNat : Int), .int .u8 (v3.toNat : Int), .int .u8 (v6.toNat : Int)] 5)) (some ⟨A10.heap.size, 0, none⟩) [v5, v4, v3, v6] := yb
              obtain ⟨A11, hw2⟩ : ∃ X : World, A10.alloc (.cells #[.int .u8 (v5.toNat : Int), .int .u8 (v4.toNat : Int), .int .u8 (v3.toNat : Int), .int .u8 (v6.toNat : Int)] 5) = X := ⟨_, rfl⟩
              rw [hw2] at hq yb
              rw [hw2]
              clear hw2
              have g5_0 := later hq g4_0
              replace hB := thru hB hq
              replace hN := hN.later hq
              replace hS := hS.later hq
              clear hq g4_0
              try simp only [Act.put, List.setIfInBounds_toArray, List.set_cons_zero, List.set_cons_succ]
              rw [wpSched]
              simp only [pick, List.map_cons, List.map_nil, Array.getD_eq_getD_getElem?, List.getElem?_toArray, List.getElem?_cons_succ, List.getElem?_cons_zero, Option.getD_some]
              repeat (first | go_big_quiet_step (fail) | quiet_step (fail))
              refine wpQuiet_nil ?_
              go_wp2_with (at_builtin; refine wpList_app_zeros rfl _ _ rfl (l := [v5, v4, v3, v6]) rfl yb k rfl (by simp; omega) HL7.out ?_; intro x7 c7 w7 h1 h2; refine Hid.out ?_)
              unfold Hid
              replace hN := hN.later h2
              replace hS := hS.later h2
              replace hB := thru hB h2
              have HZ7 := Lib.hid (World.block_lt_of_cell? _ _ (hS 0 (by decide)))
              clear h2 yb
              go_wp2_with fail
              refine (append_any x7 l7 c7 _ h1 (by omega)).mono ?_
              rintro e w8 ⟨x8, c8, rfl, ho, hb⟩
              rw [HL8.out] at ho ⊢
              obtain ⟨g8, rfl⟩ := own_some ho (by omega)
              have cap8 := ho.le_cap
              replace hN := hN.later hb
              replace hS := hS.later hb
              replace hB := thru hB hb
              have hlow := (ho.low g8 rfl).1
              clear hb h1
              go_wp2_with fail
              refine (reads_any (some ⟨g8, 0, none⟩) l8 c8 _ ho.bts (fun h => by cases h) (by omega) cap8).mono ?_
              rintro e w9 ⟨rfl, hb⟩
              replace hN := hN.later hb
              replace hS := hS.later hb
              replace hB := thru hB hb
              replace ho := ho.later hb
              clear hb
              go_wp2_with fail
              refine (reads_at (some ⟨g8, 1, none⟩) t8 _ _ _ HT8.out (bts_tail (HU8.out ▸ ho.bts)) (fun h => by cases h) (by have := HT8.out; omega) ⟨by have := HT8.out; omega, by omega⟩).mono ?_
              rintro e w10 ⟨rfl, hb⟩
              replace hN := hN.later hb
              replace hS := hS.later hb
              replace hB := thru hB hb
              replace ho := ho.later hb
              clear hb
              go_wp2_with fail
              refine (reads_at (some ⟨g8, 0, none⟩) (l8.take m8) _ _ _ HK8.out (ho.bts.take m8) (fun h => by cases h) (by rw [HK8.out]; omega) ⟨by rw [HK8.out]; omega, cap8.2⟩).mono ?_
              rintro e w11 ⟨rfl, hb⟩
              replace hN := hN.later hb
              replace hS := hS.later hb
              replace hB := thru hB hb
              replace ho := ho.later hb
              clear hb
              have hz9 : w7.heap.size ≤ w11.heap.size := by have := ho.low g8 rfl; omega
              have hzS : w.heap.size + 1 < w7.heap.size := HZ7.out
              go_wp2_with (at_builtin; refine wpList_app_w (by rfl) _ _ rfl (B := w7.heap.size) (l := l8) (y := some ⟨w11.heap.size, 0, none⟩) (m := [0]) (ho.turn ((Turns.refl (fun _ => False) w11).alloc _) (fun _ _ h => h)) rfl rfl (bts_one w11 0 _ _) (fun h => by cases h) (by simp; omega) HL9.out (by simp; omega) ?_; intro x9 c9 w12 h1 h2 _; refine Hid.out ?_)
              unfold Hid
              replace hN := (hN.later (al (Below.refl _ _) _)).low h2 (by omega)
              replace hS := (hS.later (al (Below.refl _ _) _)).low h2 (by omega)
              replace hB := (al hB _).trans (h2.mono (by omega))
              clear h2 ho
              go_wp2_with fail
              refine (reads_any x9 l9 c9 _ h1.bts h1.none_cap (by omega) h1.le_cap).mono ?_
              rintro e w13 ⟨rfl, hb⟩
              replace hN := hN.later hb
              replace hS := hS.later hb
              replace hB := thru hB hb
              clear hb h1
              go_wp2_with fail
              go_roundw
              case rel => exact ⟨n + 1, by omega, by go_num, hN, hS, hB⟩
              case measure => simp [intOf]; omega
            · refine heavy_want (by rfl) (fun K' hK' => ?_)
              go_simp
              refine hK' _ _ (al (Below.refl _ _) _) ?_
              clear hK' K'
              have hq := al (Below.refl _ A8) (.cells #[.int .u8 0, .int .u8 1, .int .u8 255] 5)
              have fr := cell_lit hv3 A8 5
              obtain ⟨A12, hw2⟩ : ∃ X : World, A8.alloc (.cells #[.int .u8 0, .int .u8 1, .int .u8 255] 5) = X := ⟨_, rfl⟩
              rw [hw2] at hq fr
              rw [hw2]
              clear hw2
              have g3_0 := later hq g2_0
              have g3_1 := later hq r4
              replace hB := thru hB hq
              replace hN := hN.later hq
              replace hS := hS.later hq
              clear hq g2_0 r4
              have r3 := fr
              clear fr
              try simp only [Act.put, List.setIfInBounds_toArray, List.set_cons_zero, List.set_cons_succ]
              rw [wpSched]
              simp only [pick, List.map_cons, List.map_nil, Array.getD_eq_getD_getElem?, List.getElem?_toArray, List.getElem?_cons_succ, List.getElem?_cons_zero, Option.getD_some]
              have kr3 := plusW_cell r3
              repeat (first | go_big_quiet_step (fail) | quiet_step (fail))
              refine wpQuiet_nil ?_
              clear kr3
              refine heavy_want (by rfl) (fun K' hK' => ?_)
              go_simp
              refine hK' _ _ (al (Below.refl _ _) _) ?_
              clear hK' K'
              have hq := al (Below.refl _ A12) (.cells #[.int .u8 0, .int .u8 15, .int .u8 16, .int .u8 128, .int .u8 255] 5)
              have fr := cell_lit hv5 A12 5
              obtain ⟨A13, hw2⟩ : ∃ X : World, A12.alloc (.cells #[.int .u8 0, .int .u8 15, .int .u8 16, .int .u8 128, .int .u8 255] 5) = X := ⟨_, rfl⟩
              rw [hw2] at hq fr
              rw [hw2]
              clear hw2
              have g4_0 := later hq g3_0
              have g4_1 := later hq g3_1
              have g4_2 := later hq r3
              replace hB := thru hB hq
              replace hN := hN.later hq
              replace hS := hS.later hq
              clear hq g3_0 g3_1 r3
              have r5 := fr
              clear fr
              try simp only [Act.put, List.setIfInBounds_toArray, List.set_cons_zero, List.set_cons_succ]
              rw [wpSched]
              simp only [pick, List.map_cons, List.map_nil, Array.getD_eq_getD_getElem?, List.getElem?_toArray, List.getElem?_cons_succ, List.getElem?_cons_zero, Option.getD_some]
              have kr5 := plusW_cell r5
              repeat (first | go_big_quiet_step (fail) | quiet_step (fail))
              refine wpQuiet_nil ?_
              clear kr5
              refine heavy_want (by rfl) (fun K' hK' => ?_)
              go_simp
              refine hK' _ _ (al (Below.refl _ _) _) ?_
              clear hK' K'
              have hq := al (Below.refl _ A13) (.cells #[.int .u8 (v5.toNat : Int), .int .u8 (v4.toNat : Int), .int .u8 (v3.toNat : Int), .int .u8 (v6.toNat : Int)] 5)
              have yb := bts_new A13 [v5, v4, v3, v6] 5 (0, 0)
              replace yb : Bts (A13.alloc (.cells #[.int .u8 (v5.toNat : Int), .int .u8 (v4.toNat : Int), .int .u8 (v3.toNat : Int), .int .u8 (v6.toNat : Int)] 5)) (some ⟨A13.heap.size, 0, none⟩) [v5, v4, v3, v6] := yb
              obtain ⟨A14, hw2⟩ : ∃ X : World, A13.alloc (.cells #[.int .u8 (v5.toNat : Int), .int .u8 (v4.toNat : Int), .int .u8 (v3.toNat : Int), .int .u8 (v6.toNat : Int)] 5) = X := ⟨_, rfl⟩
              rw [hw2] at hq yb
              rw [hw2]
              clear hw2
              have g5_0 := later hq g4_0
              replace hB := thru hB hq
              replace hN := hN.later hq
              replace hS := hS.later hq
              clear hq g4_0
              try simp only [Act.put, List.setIfInBounds_toArray, List.set_cons_zero, List.set_cons_succ]
              rw [wpSched]
              simp only [pick, List.map_cons, List.map_nil, Array.getD_eq_getD_getElem?, List.getElem?_toArray, List.getElem?_cons_succ, List.getElem?_cons_zero, Option.getD_some]
              repeat (first | go_big_quiet_step (fail) | quiet_step (fail))
              refine wpQuiet_nil ?_
              go_wp2_with (at_builtin; refine wpList_app_zeros rfl _ _ rfl (l := [v5, v4, v3, v6]) rfl yb k rfl (by simp; omega) HL7.out ?_; intro x7 c7 w7 h1 h2; refine Hid.out ?_)
              unfold Hid
              replace hN := hN.later h2
              replace hS := hS.later h2
              replace hB := thru hB h2
              have HZ7 := Lib.hid (World.block_lt_of_cell? _ _ (hS 0 (by decide)))
              clear h2 yb
              go_wp2_with fail
              refine (append_any x7 l7 c7 _ h1 (by omega)).mono ?_
              rintro e w8 ⟨x8, c8, rfl, ho, hb⟩
              rw [HL8.out] at ho ⊢
              obtain ⟨g8, rfl⟩ := own_some ho (by omega)
              have cap8 := ho.le_cap
              replace hN := hN.later hb
              replace hS := hS.later hb
              replace hB := thru hB hb
              have hlow := (ho.low g8 rfl).1
              clear hb h1
              go_wp2_with fail
              refine (reads_any (some ⟨g8, 0, none⟩) l8 c8 _ ho.bts (fun h => by cases h) (by omega) cap8).mono ?_
              rintro e w9 ⟨rfl, hb⟩
              replace hN := hN.later hb
              replace hS := hS.later hb
              replace hB := thru hB hb
              replace ho := ho.later hb
              clear hb
              go_wp2_with fail
              refine (reads_at (some ⟨g8, 1, none⟩) t8 _ _ _ HT8.out (bts_tail (HU8.out ▸ ho.bts)) (fun h => by cases h) (by have := HT8.out; omega) ⟨by have := HT8.out; omega, by omega⟩).mono ?_
              rintro e w10 ⟨rfl, hb⟩
              replace hN := hN.later hb
              replace hS := hS.later hb
              replace hB := thru hB hb
              replace ho := ho.later hb
              clear hb
              go_wp2_with fail
              refine (reads_at (some ⟨g8, 0, none⟩) (l8.take m8) _ _ _ HK8.out (ho.bts.take m8) (fun h => by cases h) (by rw [HK8.out]; omega) ⟨by rw [HK8.out]; omega, cap8.2⟩).mono ?_
              rintro e w11 ⟨rfl, hb⟩
              replace hN := hN.later hb
              replace hS := hS.later hb
              replace hB := thru hB hb
              replace ho := ho.later hb
              clear hb
              have hz9 : w7.heap.size ≤ w11.heap.size := by have := ho.low g8 rfl; omega
              have hzS : w.heap.size + 1 < w7.heap.size := HZ7.out
              go_wp2_with (at_builtin; refine wpList_app_w (by rfl) _ _ rfl (B := w7.heap.size) (l := l8) (y := some ⟨w11.heap.size, 0, none⟩) (m := [0]) (ho.turn ((Turns.refl (fun _ => False) w11).alloc _) (fun _ _ h => h)) rfl rfl (bts_one w11 0 _ _) (fun h => by cases h) (by simp; omega) HL9.out (by simp; omega) ?_; intro x9 c9 w12 h1 h2 _; refine Hid.out ?_)
              unfold Hid
              replace hN := (hN.later (al (Below.refl _ _) _)).low h2 (by omega)
              replace hS := (hS.later (al (Below.refl _ _) _)).low h2 (by omega)
              replace hB := (al hB _).trans (h2.mono (by omega))
              clear h2 ho
              go_wp2_with fail
              refine (reads_any x9 l9 c9 _ h1.bts h1.none_cap (by omega) h1.le_cap).mono ?_
              rintro e w13 ⟨rfl, hb⟩
              replace hN := hN.later hb
              replace hS := hS.later hb
              replace hB := thru hB hb
              clear hb h1
              go_wp2_with fail
              go_roundw
              case rel => exact ⟨n + 1, by omega, by go_num, hN, hS, hB⟩
              case measure => simp [intOf]; omega
          · refine heavy_want (by rfl) (fun K' hK' => ?_)
            go_simp
            refine hK' _ _ (al (Below.refl _ _) _) ?_
            clear hK' K'
            have hq := al (Below.refl _ V0) (.cells #[.int .u8 0, .int .u8 1, .int .u8 255] 5)
            have fr := cell_lit hv3 V0 5
            obtain ⟨A15, hw2⟩ : ∃ X : World, V0.alloc (.cells #[.int .u8 0, .int .u8 1, .int .u8 255] 5) = X := ⟨_, rfl⟩
            rw [hw2] at hq fr
            rw [hw2]
            clear hw2
            have g2_0 := later hq g1_0
            replace hB := thru hB hq
            replace hN := hN.later hq
            replace hS := hS.later hq
            clear hq g1_0
            have r3 := fr
            clear fr
            try simp only [Act.put, List.setIfInBounds_toArray, List.set_cons_zero, List.set_cons_succ]
            rw [wpSched]
            simp only [pick, List.map_cons, List.map_nil, Array.getD_eq_getD_getElem?, List.getElem?_toArray, List.getElem?_cons_succ, List.getElem?_cons_zero, Option.getD_some]
            have kr3 := plusW_cell r3
            repeat (first | go_big_quiet_step (fail) | quiet_step (fail))
            refine wpQuiet_nil ?_
            clear kr3
            refine ⟨?_, ?_⟩
            · refine heavy_want (by rfl) (fun K' hK' => ?_)
              go_simp
              refine hK' _ _ (al (Below.refl _ _) _) ?_
              clear hK' K'
              have hq := al (Below.refl _ A15) (.cells #[.int .u8 0, .int .u8 15, .int .u8 16, .int .u8 128, .int .u8 255] 5)
              have fr := cell_lit hv5 A15 5
              obtain ⟨A16, hw2⟩ : ∃ X : World, A15.alloc (.cells #[.int .u8 0, .int .u8 15, .int .u8 16, .int .u8 128, .int .u8 255] 5) = X := ⟨_, rfl⟩
              rw [hw2] at hq fr
              rw [hw2]
              clear hw2
              have g3_0 := later hq g2_0
              have g3_1 := later hq r3
              replace hB := thru hB hq
              replace hN := hN.later hq
              replace hS := hS.later hq
              clear hq g2_0 r3
              have r5 := fr
              clear fr
              try simp only [Act.put, List.setIfInBounds_toArray, List.set_cons_zero, List.set_cons_succ]
              rw [wpSched]
              simp only [pick, List.map_cons, List.map_nil, Array.getD_eq_getD_getElem?, List.getElem?_toArray, List.getElem?_cons_succ, List.getElem?_cons_zero, Option.getD_some]
              have kr5 := plusW_cell r5
              repeat (first | go_big_quiet_step (fail) | quiet_step (fail))
              refine wpQuiet_nil ?_
              clear kr5
              refine heavy_want (by rfl) (fun K' hK' => ?_)
              go_simp
              refine hK' _ _ (al (Below.refl _ _) _) ?_
              clear hK' K'
              have hq := al (Below.refl _ A16) (.cells #[.int .u8 0, .int .u8 1, .int .u8 2, .int .u8 255] 5)
              have fr := cell_lit hv4 A16 5
              obtain ⟨A17, hw2⟩ : ∃ X : World, A16.alloc (.cells #[.int .u8 0, .int .u8 1, .int .u8 2, .int .u8 255] 5) = X := ⟨_, rfl⟩
              rw [hw2] at hq fr
              rw [hw2]
              clear hw2
              have g4_0 := later hq g3_0
              have g4_1 := later hq g3_1
              have g4_2 := later hq r5
              replace hB := thru hB hq
              replace hN := hN.later hq
              replace hS := hS.later hq
              clear hq g3_0 g3_1 r5
              have r4 := fr
              clear fr
              try simp only [Act.put, List.setIfInBounds_toArray, List.set_cons_zero, List.set_cons_succ]
              rw [wpSched]
              simp only [pick, List.map_cons, List.map_nil, Array.getD_eq_getD_getElem?, List.getElem?_toArray, List.getElem?_cons_succ, List.getElem?_cons_zero, Option.getD_some]
              have kr4 := plusW_cell r4
              repeat (first | go_big_quiet_step (fail) | quiet_step (fail))
              refine wpQuiet_nil ?_
              clear kr4
              refine heavy_want (by rfl) (fun K' hK' => ?_)
              go_simp
              refine hK' _ _ (al (Below.refl _ _) _) ?_
              clear hK' K'
              have hq := al (Below.refl _ A17) (.cells #[.int .u8 (v5.toNat : Int), .int .u8 (v4.toNat : Int), .int .u8 (v3.toNat : Int), .int .u8 (v6.toNat : Int)] 5)
              have yb := bts_new A17 [v5, v4, v3, v6] 5 (0, 0)
              replace yb : Bts (A17.alloc (.cells #[.int .u8 (v5.toNat : Int), .int .u8 (v4.toNat : Int), .int .u8 (v3.toNat : Int), .int .u8 (v6.toNat : Int)] 5)) (some ⟨A17.heap.size, 0, none⟩) [v5, v4, v3, v6] := yb
              obtain ⟨A18, hw2⟩ : ∃ X : World, A17.alloc (.cells #[.int .u8 (v5.toNat : Int), .int .u8 (v4.toNat : Int), .int .u8 (v3.toNat : Int), .int .u8 (v6.toNat : Int)] 5) = X := ⟨_, rfl⟩
              rw [hw2] at hq yb
              rw [hw2]
              clear hw2
              have g5_0 := later hq g4_0
              replace hB := thru hB hq
              replace hN := hN.later hq
              replace hS := hS.later hq
              clear hq g4_0
              try simp only [Act.put, List.setIfInBounds_toArray, List.set_cons_zero, List.set_cons_succ]
              rw [wpSched]
              simp only [pick, List.map_cons, List.map_nil, Array.getD_eq_getD_getElem?, List.getElem?_toArray, List.getElem?_cons_succ, List.getElem?_cons_zero, Option.getD_some]
              repeat (first | go_big_quiet_step (fail) | quiet_step (fail))
              refine wpQuiet_nil ?_
              go_wp2_with (at_builtin; refine wpList_app_zeros rfl _ _ rfl (l := [v5, v4, v3, v6]) rfl yb k rfl (by simp; omega) HL7.out ?_; intro x7 c7 w7 h1 h2; refine Hid.out ?_)
              unfold Hid
              replace hN := hN.later h2
              replace hS := hS.later h2
              replace hB := thru hB h2
              have HZ7 := Lib.hid (World.block_lt_of_cell? _ _ (hS 0 (by decide)))
              clear h2 yb
              go_wp2_with fail
              refine (append_any x7 l7 c7 _ h1 (by omega)).mono ?_
              rintro e w8 ⟨x8, c8, rfl, ho, hb⟩
              rw [HL8.out] at ho ⊢
              obtain ⟨g8, rfl⟩ := own_some ho (by omega)
              have cap8 := ho.le_cap
              replace hN := hN.later hb
              replace hS := hS.later hb
              replace hB := thru hB hb
              have hlow := (ho.low g8 rfl).1
              clear hb h1
              go_wp2_with fail
              refine (reads_any (some ⟨g8, 0, none⟩) l8 c8 _ ho.bts (fun h => by cases h) (by omega) cap8).mono ?_
              rintro e w9 ⟨rfl, hb⟩
              replace hN := hN.later hb
              replace hS := hS.later hb
              replace hB := thru hB hb
              replace ho := ho.later hb
              clear hb
              go_wp2_with fail
              refine (reads_at (some ⟨g8, 1, none⟩) t8 _ _ _ HT8.out (bts_tail (HU8.out ▸ ho.bts)) (fun h => by cases h) (by have := HT8.out; omega) ⟨by have := HT8.out; omega, by omega⟩).mono ?_
              rintro e w10 ⟨rfl, hb⟩
              replace hN := hN.later hb
              replace hS := hS.later hb
              replace hB := thru hB hb
              replace ho := ho.later hb
              clear hb
              go_wp2_with fail
              refine (reads_at (some ⟨g8, 0, none⟩) (l8.take m8) _ _ _ HK8.out (ho.bts.take m8) (fun h => by cases h) (by rw [HK8.out]; omega) ⟨by rw [HK8.out]; omega, cap8.2⟩).mono ?_
              rintro e w11 ⟨rfl, hb⟩
              replace hN := hN.later hb
              replace hS := hS.later hb
              replace hB := thru hB hb
              replace ho := ho.later hb
              clear hb
              have hz9 : w7.heap.size ≤ w11.heap.size := by have := ho.low g8 rfl; omega
              have hzS : w.heap.size + 1 < w7.heap.size := HZ7.out
              go_wp2_with (at_builtin; refine wpList_app_w (by rfl) _ _ rfl (B := w7.heap.size) (l := l8) (y := some ⟨w11.heap.size, 0, none⟩) (m := [0]) (ho.turn ((Turns.refl (fun _ => False) w11).alloc _) (fun _ _ h => h)) rfl rfl (bts_one w11 0 _ _) (fun h => by cases h) (by simp; omega) HL9.out (by simp; omega) ?_; intro x9 c9 w12 h1 h2 _; refine Hid.out ?_)
              unfold Hid
              replace hN := (hN.later (al (Below.refl _ _) _)).low h2 (by omega)
              replace hS := (hS.later (al (Below.refl _ _) _)).low h2 (by omega)
              replace hB := (al hB _).trans (h2.mono (by omega))
              clear h2 ho
              go_wp2_with fail
              refine (reads_any x9 l9 c9 _ h1.bts h1.none_cap (by omega) h1.le_cap).mono ?_
              rintro e w13 ⟨rfl, hb⟩
              replace hN := hN.later hb
              replace hS := hS.later hb
              replace hB := thru hB hb
              clear hb h1
              go_wp2_with fail
              go_roundw
              case rel => exact ⟨n + 1, by omega, by go_num, hN, hS, hB⟩
              case measure => simp [intOf]; omega
            · refine heavy_want (by rfl) (fun K' hK' => ?_)
              go_simp
              refine hK' _ _ (al (Below.refl _ _) _) ?_
              clear hK' K'
              have hq := al (Below.refl _ A15) (.cells #[.int .u8 0, .int .u8 1, .int .u8 2, .int .u8 255] 5)
              have fr := cell_lit hv4 A15 5
              obtain ⟨A19, hw2⟩ : ∃ X : World, A15.alloc (.cells #[.int .u8 0, .int .u8 1, .int .u8 2, .int .u8 255] 5) = X := ⟨_, rfl⟩
              rw [hw2] at hq fr
              rw [hw2]
              clear hw2
              have g3_0 := later hq g2_0
              have g3_1 := later hq r3
              replace hB := thru hB hq
              replace hN := hN.later hq
              replace hS := hS.later hq
              clear hq g2_0 r3
              have r4 := fr
              clear fr
              try simp only [Act.put, List.setIfInBounds_toArray, List.set_cons_zero, List.set_cons_succ]
              rw [wpSched]
              simp only [pick, List.map_cons, List.map_nil, Array.getD_eq_getD_getElem?, List.getElem?_toArray, List.getElem?_cons_succ, List.getElem?_cons_zero, Option.getD_some]
              have kr4 := plusW_cell r4
              repeat (first | go_big_quiet_step (fail) | quiet_step (fail))
              refine wpQuiet_nil ?_
              clear kr4
              refine heavy_want (by rfl) (fun K' hK' => ?_)
              go_simp
              refine hK' _ _ (al (Below.refl _ _) _) ?_
              clear hK' K'
              have hq := al (Below.refl _ A19) (.cells #[.int .u8 0, .int .u8 15, .int .u8 16, .int .u8 128, .int .u8 255] 5)
              have fr := cell_lit hv5 A19 5
              obtain ⟨A20, hw2⟩ : ∃ X : World, A19.alloc (.cells #[.int .u8 0, .int .u8 15, .int .u8 16, .int .u8 128, .int .u8 255] 5) = X := ⟨_, rfl⟩
              rw [hw2] at hq fr
              rw [hw2]
              clear hw2
              have g4_0 := later hq g3_0
              have g4_1 := later hq g3_1
              have g4_2 := later hq r4
              replace hB := thru hB hq
              replace hN := hN.later hq
              replace hS := hS.later hq
              clear hq g3_0 g3_1 r4
              have r5 := fr
              clear fr
              try simp only [Act.put, List.setIfInBounds_toArray, List.set_cons_zero, List.set_cons_succ]
              rw [wpSched]
              simp only [pick, List.map_cons, List.map_nil, Array.getD_eq_getD_getElem?, List.getElem?_toArray, List.getElem?_cons_succ, List.getElem?_cons_zero, Option.getD_some]
              have kr5 := plusW_cell r5
              repeat (first | go_big_quiet_step (fail) | quiet_step (fail))
              refine wpQuiet_nil ?_
              clear kr5
              refine heavy_want (by rfl) (fun K' hK' => ?_)
              go_simp
              refine hK' _ _ (al (Below.refl _ _) _) ?_
              clear hK' K'
              have hq := al (Below.refl _ A20) (.cells #[.int .u8 (v5.toNat : Int), .int .u8 (v4.toNat : Int), .int .u8 (v3.toNat : Int), .int .u8 (v6.toNat : Int)] 5)
              have yb := bts_new A20 [v5, v4, v3, v6] 5 (0, 0)
              replace yb : Bts (A20.alloc (.cells #[.int .u8 (v5.toNat : Int), .int .u8 (v4.toNat : Int), .int .u8 (v3.toNat : Int), .int .u8 (v6.toNat : Int)] 5)) (some ⟨A20.heap.size, 0, none⟩) [v5, v4, v3, v6] := yb
              obtain ⟨A21, hw2⟩ : ∃ X : World, A20.alloc (.cells #[.int .u8 (v5.toNat : Int), .int .u8 (v4.toNat : Int), .int .u8 (v3.toNat : Int), .int .u8 (v6.toNat : Int)] 5) = X := ⟨_, rfl⟩
              rw [hw2] at hq yb
              rw [hw2]
              clear hw2
              have g5_0 := later hq g4_0
              replace hB := thru hB hq
              replace hN := hN.later hq
              replace hS := hS.later hq
              clear hq g4_0
              try simp only [Act.put, List.setIfInBounds_toArray, List.set_cons_zero, List.set_cons_succ]
              rw [wpSched]
              simp only [pick, List.map_cons, List.map_nil, Array.getD_eq_getD_getElem?, List.getElem?_toArray, List.getElem?_cons_succ, List.getElem?_cons_zero, Option.getD_some]
              repeat (first | go_big_quiet_step (fail) | quiet_step (fail))
              refine wpQuiet_nil ?_
              go_wp2_with (at_builtin; refine wpList_app_zeros rfl _ _ rfl (l := [v5, v4, v3, v6]) rfl yb k rfl (by simp; omega) HL7.out ?_; intro x7 c7 w7 h1 h2; refine Hid.out ?_)
              unfold Hid
              replace hN := hN.later h2
              replace hS := hS.later h2
              replace hB := thru hB h2
              have HZ7 := Lib.hid (World.block_lt_of_cell? _ _ (hS 0 (by decide)))
              clear h2 yb
              go_wp2_with fail
              refine (append_any x7 l7 c7 _ h1 (by omega)).mono ?_
              rintro e w8 ⟨x8, c8, rfl, ho, hb⟩
              rw [HL8.out] at ho ⊢
              obtain ⟨g8, rfl⟩ := own_some ho (by omega)
              have cap8 := ho.le_cap
              replace hN := hN.later hb
              replace hS := hS.later hb
              replace hB := thru hB hb
              have hlow := (ho.low g8 rfl).1
              clear hb h1
              go_wp2_with fail
              refine (reads_any (some ⟨g8, 0, none⟩) l8 c8 _ ho.bts (fun h => by cases h) (by omega) cap8).mono ?_
              rintro e w9 ⟨rfl, hb⟩
              replace hN := hN.later hb
              replace hS := hS.later hb
              replace hB := thru hB hb
              replace ho := ho.later hb
              clear hb
              go_wp2_with fail
              refine (reads_at (some ⟨g8, 1, none⟩) t8 _ _ _ HT8.out (bts_tail (HU8.out ▸ ho.bts)) (fun h => by cases h) (by have := HT8.out; omega) ⟨by have := HT8.out; omega, by omega⟩).mono ?_
              rintro e w10 ⟨rfl, hb⟩
              replace hN := hN.later hb
              replace hS := hS.later hb
              replace hB := thru hB hb
              replace ho := ho.later hb
              clear hb
              go_wp2_with fail
              refine (reads_at (some ⟨g8, 0, none⟩) (l8.take m8) _ _ _ HK8.out (ho.bts.take m8) (fun h => by cases h) (by rw [HK8.out]; omega) ⟨by rw [HK8.out]; omega, cap8.2⟩).mono ?_
              rintro e w11 ⟨rfl, hb⟩
              replace hN := hN.later hb
              replace hS := hS.later hb
              replace hB := thru hB hb
              replace ho := ho.later hb
              clear hb
              have hz9 : w7.heap.size ≤ w11.heap.size := by have := ho.low g8 rfl; omega
              have hzS : w.heap.size + 1 < w7.heap.size := HZ7.out
              go_wp2_with (at_builtin; refine wpList_app_w (by rfl) _ _ rfl (B := w7.heap.size) (l := l8) (y := some ⟨w11.heap.size, 0, none⟩) (m := [0]) (ho.turn ((Turns.refl (fun _ => False) w11).alloc _) (fun _ _ h => h)) rfl rfl (bts_one w11 0 _ _) (fun h => by cases h) (by simp; omega) HL9.out (by simp; omega) ?_; intro x9 c9 w12 h1 h2 _; refine Hid.out ?_)
              unfold Hid
              replace hN := (hN.later (al (Below.refl _ _) _)).low h2 (by omega)
              replace hS := (hS.later (al (Below.refl _ _) _)).low h2 (by omega)
              replace hB := (al hB _).trans (h2.mono (by omega))
              clear h2 ho
              go_wp2_with fail
              refine (reads_any x9 l9 c9 _ h1.bts h1.none_cap (by omega) h1.le_cap).mono ?_
              rintro e w13 ⟨rfl, hb⟩
              replace hN := hN.later hb
              replace hS := hS.later hb
              replace hB := thru hB hb
              clear hb h1
              go_wp2_with fail
              go_roundw
              case rel => exact ⟨n + 1, by omega, by go_num, hN, hS, hB⟩
              case measure => simp [intOf]; omega
        · obtain rfl : n = 1080 := by omega
          rw [show ((1080 : Nat) : Int) = 1080 from rfl]
          go_wp2_with fail
          go_loopw [10] (fun u10 wr => ∃ n : Nat, n ≤ 4 ∧ u10 = .int .i64 (n : Int) ∧ SmRel w wr) (fun u10 _ => 4 - (intOf u10).toNat)
          case atStart => exact ⟨0, by omega, rfl, hN, hS, hB⟩
          case round =>
            clear hN hS hB
            obtain ⟨n, hn, rfl, hN, hS, hB⟩ := hrel
            by_cases hlt : n < 4
            · have hkn : decide ((n : Int) < 4) = true := by simp; omega
              have hmk := fun W => run_zeros n (by omega) W
              obtain ⟨l8, hl8⟩ : ∃ t, List.replicate n (0 : UInt8) ++ Crc.trailer (Crc.sum (List.replicate n 0)) = t := ⟨_, rfl⟩
              have hl8n : l8.length ≤ 8 := by rw [← hl8, List.length_append, Crc.trailer_length, List.length_replicate]; omega
              have HL8 := Lib.hid hl8
              clear hl8
              go_wp2_with fail
              refine (reads_at (some ⟨wr.heap.size, 0, none⟩) (List.replicate n 0) n n _ (by simp) (OwnsB.zeros wr.heap.size wr.heap.size n wr (Nat.le_refl _) rfl (by omega)).bts (fun h => by cases h) (by simp; omega) ⟨by simp, by omega⟩).mono ?_
              rintro e w1 ⟨rfl, hb⟩
              have hq := thru (al (Below.refl _ wr) _) hb
              replace hN := hN.later hq
              replace hS := hS.later hq
              replace hB := thru hB hq
              clear hb hq
              go_wp2_with fail
              refine (appendc_at (some ⟨w1.heap.size, 0, none⟩) (List.replicate n 0) n n _ (by simp) (OwnsB.zeros w1.heap.size w1.heap.size n w1 (Nat.le_refl _) rfl (by omega)).bts (by simp; omega)).mono ?_
              rintro e w2 ⟨x2, c2, rfl, ho, hb⟩
              rw [HL8.out] at ho ⊢
              have hq := thru (al (Below.refl _ w1) _) hb
              replace hN := hN.later hq
              replace hS := hS.later hq
              replace hB := thru hB hq
              clear hb hq
              go_wp2_with fail
              refine (reads_any x2 l8 c2 _ ho.bts ho.none_cap (by omega) ho.le_cap).mono ?_
              rintro e w3 ⟨rfl, hb⟩
              replace hN := hN.later hb
              replace hS := hS.later hb
              replace hB := thru hB hb
              clear hb ho
              go_wp2_with fail
              exact ⟨⟨n + 1, by omega, by go_num, hN, hS, hB⟩, by simp [intOf]; omega⟩
            · obtain rfl : n = 4 := by omega
              rw [show ((4 : Nat) : Int) = 4 from rfl]
              go_wp2_with fail
              have hM : WordsAt ((wr.alloc (Obj.cells #[Value.int .u32 0, Value.int .u32 1, Value.int .u32 3, Value.int .u32 2147483648, Value.int .u32 4294967295, Value.int .u32 2147483649, Value.int .u32 1431655765] 29)).alloc (Obj.cells #[Value.int .u8 0, Value.int .u8 255, Value.int .u8 129, Value.int .u8 24, Value.int .u8 7] 5)) wr.heap.size smM := (words_new wr smM _ _ rfl).later (al (Below.refl _ _) _)
              have h5 : Bts ((wr.alloc (Obj.cells #[Value.int .u32 0, Value.int .u32 1, Value.int .u32 3, Value.int .u32 2147483648, Value.int .u32 4294967295, Value.int .u32 2147483649, Value.int .u32 1431655765] 29)).alloc (Obj.cells #[Value.int .u8 0, Value.int .u8 255, Value.int .u8 129, Value.int .u8 24, Value.int .u8 7] 5)) (some ⟨wr.heap.size + 1, 0, none⟩) bL := by
                have := bts_new (wr.alloc (Obj.cells #[Value.int .u32 0, Value.int .u32 1, Value.int .u32 3, Value.int .u32 2147483648, Value.int .u32 4294967295, Value.int .u32 2147483649, Value.int .u32 1431655765] 29)) bL 5 (0, 0)
                have e : (wr.alloc (Obj.cells #[Value.int .u32 0, Value.int .u32 1, Value.int .u32 3, Value.int .u32 2147483648, Value.int .u32 4294967295, Value.int .u32 2147483649, Value.int .u32 1431655765] 29)).heap.size = wr.heap.size + 1 := by simp
                rw [e] at this
                exact this
              replace hB := al (al hB (Obj.cells #[Value.int .u32 0, Value.int .u32 1, Value.int .u32 3, Value.int .u32 2147483648, Value.int .u32 4294967295, Value.int .u32 2147483649, Value.int .u32 1431655765] 29)) (Obj.cells #[Value.int .u8 0, Value.int .u8 255, Value.int .u8 129, Value.int .u8 24, Value.int .u8 7] 5)
              obtain ⟨bm, hbm⟩ : ∃ b, wr.heap.size = b := ⟨_, rfl⟩
              rw [hbm] at hM h5 ⊢
              clear hN hS hbm
              go_loopw [13] (fun u13 wr => ∃ k : Nat, k ≤ 90 ∧ u13 = .int .i64 ((k : Int) - 40) ∧ BmRel bm w wr) (fun u13 _ => (50 - intOf u13).toNat)
              case atStart => exact ⟨0, by omega, by rfl, hM, h5, hB⟩
              case round =>
                clear hM h5 hB
                obtain ⟨k, hk, rfl, hM, h5, hB⟩ := hrel
                by_cases hlt : k < 90
                · have hkn : decide ((k : Int) - 40 < 50) = true := decide_eq_true (by omega)
                  go_wp2_with fail
                  go_loopw [14] (fun u14 wr => ∃ i : Nat, i ≤ 7 ∧ u14 = .int .i64 (i : Int) ∧ BmRel bm w wr) (fun u14 _ => 7 - (intOf u14).toNat)
                  case atStart => exact ⟨0, by omega, rfl, hM, h5, hB⟩
                  case round =>
                    clear hM h5 hB
                    obtain ⟨i, hi, rfl, hM, h5, hB⟩ := hrel
                    by_cases hlt2 : i < 7
                    · have hki : decide ((i : Int) < 7) = true := by simp; omega
                      have cm := hM i hlt2
                      obtain ⟨m, hm⟩ : ∃ m, smM.getD i 0#32 = m := ⟨_, rfl⟩
                      rw [hm] at cm
                      obtain ⟨l1, hl1⟩ : ∃ z, Crc.burst m ((k : Int) - 40) bL = z := ⟨_, rfl⟩
                      have hn1 : l1.length ≤ 5 := by rw [← hl1, Crc.burst_length]; decide
                      have HL1 := Lib.hid hl1
                      have HL0 := Lib.hid (show Crc.burst m ((k : Int) - 40) [] = [] from List.eq_nil_of_length_eq_zero (Crc.burst_length _ _ _))
                      have HSW := Lib.hid (show (l1 == l1) = true by simp)
                      clear hm hl1
                      go_wp2_with fail
                      refine wp_region_sched (fun W => W.cell? ⟨bm, i, none⟩ = some (.int .u32 (n32 m)) ∧ WordsAt W bm smM ∧ Bts W (some ⟨bm + 1, 0, none⟩) bL ∧ Below w.heap.size w W) (.one [0, 1, 2, 3, 4, 5, 7, 8, 9, 10, 11, 12] 6 (.one [] 13 (.one [] 14 (.one [15, 16, 17, 18, 19, 20, 21] 22 (.one [] 23 (.done [24, 25])))))) (by kernel_rfl) (by kernel_rfl) (fun _ _ _ _ _ h => h) ⟨(by go_simp), hM, h5, hB.drew⟩ ?_
                      clear hB cm hM h5
                      rintro Q ⟨g1_0, hM, h5, hB⟩
                      rw [wpSched]
                      simp only [pick, List.map_cons, List.map_nil, Array.getD_eq_getD_getElem?, List.getElem?_toArray, List.getElem?_cons_succ, List.getElem?_cons_zero, Option.getD_some]
                      have kg1_0 := plusW_cell g1_0
                      repeat (first | go_big_quiet_step (fail) | quiet_step (fail))
                      refine wpQuiet_nil ?_
                      clear kg1_0
                      refine heavy_want (by rfl) (fun K' hK' => ?_)
                      go_simp
                      refine (burst_at (some ⟨bm + 1, 0, none⟩) bL 5 5 ((k : Int) - 40) m (n32 m) _ rfl rfl h5 (fun h => by cases h) (by decide) (by omega) (hd.later hB)).mono ?_
                      rintro e Q1 ⟨x1, c1, rfl, ho, hb⟩
                      refine hK' _ _ hb ?_
                      clear hK' K'
                      rw [HL1.out] at ho ⊢
                      have y1 := ho.bts
                      clear ho
                      have hq := thru (Below.refl _ Q) hb
                      clear hb
                      have g2_0 := later hq g1_0
                      replace hB := thru hB hq
                      replace hM := hM.later hq
                      replace h5 := h5.later hq
                      clear hq g1_0
                      try simp only [Act.put, List.setIfInBounds_toArray, List.set_cons_zero, List.set_cons_succ]
                      rw [wpSched]
                      simp only [pick, List.map_nil, Array.getD_eq_getD_getElem?, List.getElem?_toArray, List.getElem?_cons_succ, List.getElem?_cons_zero, Option.getD_some]
                      refine wpQuiet_nil ?_
                      refine heavy_want (by rfl) (fun K' hK' => ?_)
                      go_simp
                      refine (refburst_at (some ⟨bm + 1, 0, none⟩) bL 5 5 ((k : Int) - 40) m _ rfl h5 (by decide) (by omega)).mono ?_
                      rintro e Q2 ⟨x2, c2, rfl, ho, hb⟩
                      refine hK' _ _ hb ?_
                      clear hK' K'
                      rw [HL1.out] at ho ⊢
                      have y2 := ho.bts
                      clear ho
                      have hq := thru (Below.refl _ Q1) hb
                      clear hb
                      have g3_0 := later hq g2_0
                      replace hB := thru hB hq
                      replace hM := hM.later hq
                      replace h5 := h5.later hq
                      replace y1 := y1.later hq
                      clear hq g2_0
                      try simp only [Act.put, List.setIfInBounds_toArray, List.set_cons_zero, List.set_cons_succ]
                      rw [wpSched]
                      simp only [pick, List.map_nil, Array.getD_eq_getD_getElem?, List.getElem?_toArray, List.getElem?_cons_succ, List.getElem?_cons_zero, Option.getD_some]
                      refine wpQuiet_nil ?_
                      refine heavy_want (by rfl) (fun K' hK' => ?_)
                      go_simp
                      refine (sameb_any x1 l1 c1 x2 l1 c2 _ y1 y2 (by omega) (by omega)).mono ?_
                      rintro e Q3 ⟨rfl, hb⟩
                      refine hK' _ _ hb ?_
                      clear hK' K'
                      rw [HSW.out]
                      have hq := thru (Below.refl _ Q2) hb
                      clear hb
                      have g4_0 := later hq g3_0
                      replace hB := thru hB hq
                      replace hM := hM.later hq
                      replace h5 := h5.later hq
                      replace y1 := y1.later hq
                      replace y2 := y2.later hq
                      clear hq g3_0
                      try simp only [Act.put, List.setIfInBounds_toArray, List.set_cons_zero, List.set_cons_succ]
                      rw [wpSched]
                      simp only [pick, List.map_cons, List.map_nil, Array.getD_eq_getD_getElem?, List.getElem?_toArray, List.getElem?_cons_succ, List.getElem?_cons_zero, Option.getD_some]
                      have kg4_0 := plusW_cell g4_0
                      repeat (first | go_big_quiet_step (fail) | quiet_step (fail))
                      refine wpQuiet_nil ?_
                      clear kg4_0
                      refine heavy_want (by rfl) (fun K' hK' => ?_)
                      go_simp
                      refine (burst_at none [] 0 0 ((k : Int) - 40) m (n32 m) _ rfl rfl (.inl rfl) (fun _ => rfl) (by decide) (by omega) (hd.later hB)).mono ?_
                      rintro e Q4 ⟨x3, c3, rfl, ho, hb⟩
                      refine hK' _ _ hb ?_
                      clear hK' K'
                      rw [HL0.out] at ho ⊢
                      have y3 := ho.bts
                      clear ho
                      have hq := thru (Below.refl _ Q3) hb
                      clear hb
                      have g5_0 := later hq g4_0
                      replace hB := thru hB hq
                      replace hM := hM.later hq
                      replace h5 := h5.later hq
                      replace y1 := y1.later hq
                      replace y2 := y2.later hq
                      clear hq g4_0
                      try simp only [Act.put, List.setIfInBounds_toArray, List.set_cons_zero, List.set_cons_succ]
                      rw [wpSched]
                      simp only [pick, List.map_nil, Array.getD_eq_getD_getElem?, List.getElem?_toArray, List.getElem?_cons_succ, List.getElem?_cons_zero, Option.getD_some]
                      refine wpQuiet_nil ?_
                      refine heavy_want (by rfl) (fun K' hK' => ?_)
                      go_simp
                      refine (sameb_at x3 [] 0 c3 none [] 0 0 _ rfl rfl y3 (.inl rfl) (by decide) (by decide)).mono ?_
                      rintro e Q5 ⟨rfl, hb⟩
                      refine hK' _ _ hb ?_
                      clear hK' K'
                      rw [show (([] : List UInt8) == []) = true from rfl]
                      have hq := thru (Below.refl _ Q4) hb
                      clear hb
                      have g6_0 := later hq g5_0
                      replace hB := thru hB hq
                      replace hM := hM.later hq
                      replace h5 := h5.later hq
                      replace y1 := y1.later hq
                      replace y2 := y2.later hq
                      replace y3 := y3.later hq
                      clear hq g5_0
                      try simp only [Act.put, List.setIfInBounds_toArray, List.set_cons_zero, List.set_cons_succ]
                      rw [wpSched]
                      simp only [pick, List.map_cons, List.map_nil, Array.getD_eq_getD_getElem?, List.getElem?_toArray, List.getElem?_cons_succ, List.getElem?_cons_zero, Option.getD_some]
                      repeat (first | go_big_quiet_step (fail) | quiet_step (fail))
                      refine wpQuiet_nil ?_
                      go_wp2_with fail
                      exact ⟨⟨i + 1, by omega, by go_num, hM, h5, hB⟩, by simp [intOf]; omega⟩
                    · obtain rfl : i = 7 := by omega
                      rw [show ((7 : Nat) : Int) = 7 from rfl]
                      go_wp2_with fail
                      exact ⟨⟨k + 1, by omega, by go_num, hM, h5, hB⟩, by simp [intOf]; omega⟩
                · obtain rfl : k = 90 := by omega
                  rw [show ((90 : Nat) : Int) - 40 = 50 from rfl]
                  go_wp2_with fail
                  refine (burst_at (some ⟨bm + 1, 0, none⟩) bL 5 5 (-9223372036854775808) 1#32 1 _ rfl (by decide) h5 (fun h => by cases h) (by decide) (by omega) (hd.later hB)).mono ?_
                  rintro e e1 ⟨x1, c1, rfl, ho, hb⟩
                  rw [Crc.burst_out _ _ _ (.inl (by decide))] at ho ⊢
                  have y1 := ho.bts
                  replace h5 := h5.later hb
                  replace hB := thru hB hb
                  clear ho hb
                  go_wp2_with fail
                  refine (sameb_at x1 bL 5 c1 (some ⟨bm + 1, 0, none⟩) bL 5 5 _ rfl rfl y1 h5 (by decide) (by decide)).mono ?_
                  rintro e e2 ⟨rfl, hb⟩
                  rw [show (bL == bL) = true from rfl]
                  replace h5 := h5.later hb
                  replace hB := thru hB hb
                  clear hb y1
                  go_wp2_with fail
                  refine (burst_at (some ⟨bm + 1, 0, none⟩) bL 5 5 9223372036854775807 4294967295#32 4294967295 _ rfl (by decide) h5 (fun h => by cases h) (by decide) (by omega) (hd.later hB)).mono ?_
                  rintro e e3 ⟨x2, c2, rfl, ho, hb⟩
                  rw [Crc.burst_out _ _ _ (.inr (by decide))] at ho ⊢
                  have y1 := ho.bts
                  replace h5 := h5.later hb
                  replace hB := thru hB hb
                  clear ho hb
                  go_wp2_with fail
                  refine (sameb_at x2 bL 5 c2 (some ⟨bm + 1, 0, none⟩) bL 5 5 _ rfl rfl y1 h5 (by decide) (by decide)).mono ?_
                  rintro e e4 ⟨rfl, hb⟩
                  rw [show (bL == bL) = true from rfl]
                  replace hB := thru hB hb
                  clear hb y1 h5
                  go_wp2_with fail
                  refine (awake_any _ (hd.later hB)).mono ?_
                  rintro e e5 ⟨rfl, hb⟩
                  replace hB := thru hB hb
                  go_wp2_with fail
                  go_ret
                  exact ⟨rfl, hB⟩

end Go.Proofs.YtjnjjnkanbnliaaDoor
