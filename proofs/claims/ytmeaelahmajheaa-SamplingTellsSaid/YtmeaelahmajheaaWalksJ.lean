/- WALKS of the laws: SamplingTells. -/
import Derived.Test.YtmeaelahmajheaaWalksI
import Derived.Test.YtmeaelahmajheaaWalksH
import Derived.Deep.OwnRows
import Derived.LoopTactic
namespace Go.Proofs.Ytmeaelahmajheaa
open Go.RowKit

/-- A row of bytes of the call's own, in the blocks from lo up to hi. -/
def AnyRow (lo hi : Nat) (w : World) (x : Option Addr) (n : Nat) : Prop := n = 0 ∨ ∃ b, x = some ⟨b, 0, none⟩ ∧ lo ≤ b ∧ b < hi ∧ ∀ i, i < n → (∃ c : UInt8, w.cell? ⟨b, i, none⟩ = some (encB c)) ∧ w.frozen? ⟨b, i, none⟩ = false

theorem AnyRow.later {lo hi : Nat} {w w' : World} {x : Option Addr} {n : Nat} (h : AnyRow lo hi w x n) (hb : Below w.heap.size w w') : AnyRow lo hi w' x n := by
  rcases h with h | ⟨b, h1, h2, h3, h4⟩
  · exact .inl h
  · refine .inr ⟨b, h1, h2, h3, fun i hi => ?_⟩
    obtain ⟨⟨c, hc⟩, hf⟩ := h4 i hi
    exact ⟨⟨c, Go.Proofs.Ytmeaelahmajheaa.later hb hc⟩, (hb.frozen (World.block_lt_of_cell? w _ hc)).trans hf⟩

theorem AnyRow.of_owns {lo : Nat} {w : World} {x : Option Addr} {cap : Nat} {l : List UInt8} (h : OwnsB lo w x cap l) : AnyRow lo w.heap.size w x l.length := by
  rcases h.2 with ⟨hv, h0⟩ | ⟨g, cap', cur, hv, hlo, hg, hnc, hm, hcs, htake⟩
  · exact .inl h0
  · cases hv
    refine .inr ⟨g, rfl, hlo, (Array.getElem?_eq_some_iff.1 hg).1, fun i hi => ⟨⟨l.getD i 0, ?_⟩, by simp [World.frozen?, hg]⟩⟩
    rcases (OwnsB.bts h) with h' | ⟨b, o, hx, hc⟩
    · subst h'; simp at hi
    · cases hx
      simpa using hc i hi

theorem AnyRow.other {lo hi : Nat} {w : World} {x : Option Addr} {n : Nat} (h : AnyRow lo hi w x n) {p : Addr} (hp : p.block < lo ∨ hi ≤ p.block) (v : Value) : AnyRow lo hi (w.setCell p v) x n := by
  rcases h with h | ⟨b, h1, h2, h3, h4⟩
  · exact .inl h
  · have e : (w.setCell p v).heap[b]? = w.heap[b]? := Deep.blk_setCell_other _ _ _ _ (by omega)
    exact .inr ⟨b, h1, h2, h3, fun i hi => by rw [World.cell?_of_block (w := w) e, World.frozen?_of_block (w := w) e]; exact h4 i hi⟩

theorem AnyRow.own {lo hi : Nat} {w : World} {b n : Nat} (h : AnyRow lo hi w (some ⟨b, 0, none⟩) n) (j : Nat) (c : UInt8) : AnyRow lo hi (w.setCell ⟨b, j, none⟩ (encB c)) (some ⟨b, 0, none⟩) n := by
  rcases h with h | ⟨b', h1, h2, h3, h4⟩
  · exact .inl h
  · cases h1
    refine .inr ⟨b, rfl, h2, h3, fun i hi => ?_⟩
    obtain ⟨⟨d, hd⟩, hf⟩ := h4 i hi
    by_cases hij : i = j
    · subst hij
      exact ⟨⟨c, by go_simp⟩, by go_simp⟩
    · exact ⟨⟨d, by go_simp⟩, by go_simp⟩

theorem cell_other {w : World} {p a : Addr} {v u : Value} (h : w.cell? a = some u) (hp : a.block ≠ p.block) : (w.setCell p v).cell? a = some u :=
  (World.cell?_of_block (w := w) (Deep.blk_setCell_other _ _ _ _ hp)).trans h

/-- What stays while the results' bytes are turned. -/
def IncK (w : World) (bs bt : Nat) (vs vt : Value) (lo1 hi1 lo2 hi2 : Nat) (x1 : Option Addr) (n1 : Nat) (x3 : Option Addr) (n3 : Nat) (wr : World) : Prop :=
  Below w.heap.size w wr ∧ wr.cell? ⟨bs, 0, none⟩ = some vs ∧ wr.cell? ⟨bt, 0, none⟩ = some vt ∧ AnyRow lo1 hi1 wr x1 n1 ∧ AnyRow lo2 hi2 wr x3 n3

theorem IncK.set1 {w : World} {bs bt : Nat} {vs vt : Value} {lo1 hi1 lo2 hi2 b n1 : Nat} {x3 : Option Addr} {n3 : Nat} {wr : World} (h : IncK w bs bt vs vt lo1 hi1 lo2 hi2 (some ⟨b, 0, none⟩) n1 x3 n3 wr) (h1 : lo1 ≤ b) (h2 : b < hi1) (e1 : bs < lo1) (e2 : hi1 ≤ bt) (e3 : hi1 ≤ lo2) (e4 : w.heap.size ≤ lo1) (j : Nat) (c : UInt8) :
    IncK w bs bt vs vt lo1 hi1 lo2 hi2 (some ⟨b, 0, none⟩) n1 x3 n3 (wr.setCell ⟨b, j, none⟩ (encB c)) :=
  ⟨h.1.setCell (by show _ ≤ b; omega) _, cell_other h.2.1 (by show bs ≠ b; omega), cell_other h.2.2.1 (by show bt ≠ b; omega), h.2.2.2.1.own j c, h.2.2.2.2.other (.inl (by show b < lo2; omega)) _⟩

theorem IncK.set2 {w : World} {bs bt : Nat} {vs vt : Value} {lo1 hi1 lo2 hi2 b n1 : Nat} {x1 : Option Addr} {n3 : Nat} {wr : World} (h : IncK w bs bt vs vt lo1 hi1 lo2 hi2 x1 n1 (some ⟨b, 0, none⟩) n3 wr) (h1 : lo2 ≤ b) (h2 : b < hi2) (e1 : bs < lo1) (e2 : bt < lo2) (e3 : hi1 ≤ lo2) (e4 : w.heap.size ≤ lo1) (e5 : bs < lo2) (e6 : w.heap.size ≤ lo2) (j : Nat) (c : UInt8) :
    IncK w bs bt vs vt lo1 hi1 lo2 hi2 x1 n1 (some ⟨b, 0, none⟩) n3 (wr.setCell ⟨b, j, none⟩ (encB c)) :=
  ⟨h.1.setCell (by show _ ≤ b; omega) _, cell_other h.2.1 (by show bs ≠ b; omega), cell_other h.2.2.1 (by show bt ≠ b; omega), h.2.2.2.1.other (.inr (by show hi1 ≤ b; omega)) _, h.2.2.2.2.own j c⟩

/-- The rounds that turn the bytes. -/
def IncRel (K : World → Prop) (n : Nat) (i : Value) (wr : World) : Prop := ∃ j : Nat, j ≤ n ∧ i = .int .i64 (j : Int) ∧ K wr


set_option maxRecDepth 100000 in
set_option maxHeartbeats 1000000 in
theorem tell_long1 (nm : ByteArray) (kind : Int) (out : Bool) (size depth refresh : Int) (xS : Option Addr) (lS : List UInt8) (cS : Nat) (tS : Int) (hS : Bool) (now : Int) (y : Option Addr) (d : List UInt8) (c : Nat) (w : World) (m1 : 200 < (lS.length : Int)) : Calls Try.prog 3 #[.agg #[.string nm, .int .u8 kind, .bool out, .int .i64 size, .int .i64 depth, .int .i64 refresh], .agg #[.slice xS lS.length cS, .int .i64 tS, .bool hS], .int .i64 now, .slice y d.length c] w fun e w' => e = .returned (.bool true) ∧ Below w.heap.size w w' := by
  have hB := Below.refl w.heap.size w
  go_enter Try.func3, Try.ntmps3
  go_wp2_with fail
  refine (awake_any _).mono ?_
  rintro e w1 ⟨rfl, hb⟩
  have hq := thru (al (al (Below.refl _ w) _) _) hb
  have g1_0 := later (a := ⟨w.heap.size, 0, none⟩) (v := .string nm) hb (by go_simp)
  have g1_1 := later (a := ⟨w.heap.size, 1, none⟩) (v := .int .u8 kind) hb (by go_simp)
  have g1_2 := later (a := ⟨w.heap.size, 2, none⟩) (v := .bool out) hb (by go_simp)
  have g1_3 := later (a := ⟨w.heap.size, 3, none⟩) (v := .int .i64 size) hb (by go_simp)
  have g1_4 := later (a := ⟨w.heap.size, 4, none⟩) (v := .int .i64 depth) hb (by go_simp)
  have g1_5 := later (a := ⟨w.heap.size, 5, none⟩) (v := .int .i64 refresh) hb (by go_simp)
  have g1_6 := later (a := ⟨w.heap.size + 1, 0, none⟩) (v := .slice xS lS.length cS) hb (by go_simp)
  have g1_7 := later (a := ⟨w.heap.size + 1, 1, none⟩) (v := .int .i64 tS) hb (by go_simp)
  have g1_8 := later (a := ⟨w.heap.size + 1, 2, none⟩) (v := .bool hS) hb (by go_simp)
  have z1_0 : w.heap.size < w1.heap.size := (by have := hb.size; simp at this; omega)
  have z1_1 : w.heap.size + 1 < w1.heap.size := (by have := hb.size; simp at this; omega)
  replace hB := thru hB hq
  clear hb hq 
  go_wp2_with fail
  go_ret
  exact ⟨rfl, hB⟩


set_option maxRecDepth 100000 in
set_option maxHeartbeats 1000000 in
theorem tell_long2 (nm : ByteArray) (kind : Int) (out : Bool) (size depth refresh : Int) (xS : Option Addr) (lS : List UInt8) (cS : Nat) (tS : Int) (hS : Bool) (now : Int) (y : Option Addr) (d : List UInt8) (c : Nat) (w : World) (m1 : ¬ 200 < (lS.length : Int)) (m2 : 200 < (d.length : Int)) : Calls Try.prog 3 #[.agg #[.string nm, .int .u8 kind, .bool out, .int .i64 size, .int .i64 depth, .int .i64 refresh], .agg #[.slice xS lS.length cS, .int .i64 tS, .bool hS], .int .i64 now, .slice y d.length c] w fun e w' => e = .returned (.bool true) ∧ Below w.heap.size w w' := by
  have hB := Below.refl w.heap.size w
  go_enter Try.func3, Try.ntmps3
  go_wp2_with fail
  refine (awake_any _).mono ?_
  rintro e w1 ⟨rfl, hb⟩
  have hq := thru (al (al (Below.refl _ w) _) _) hb
  have g1_0 := later (a := ⟨w.heap.size, 0, none⟩) (v := .string nm) hb (by go_simp)
  have g1_1 := later (a := ⟨w.heap.size, 1, none⟩) (v := .int .u8 kind) hb (by go_simp)
  have g1_2 := later (a := ⟨w.heap.size, 2, none⟩) (v := .bool out) hb (by go_simp)
  have g1_3 := later (a := ⟨w.heap.size, 3, none⟩) (v := .int .i64 size) hb (by go_simp)
  have g1_4 := later (a := ⟨w.heap.size, 4, none⟩) (v := .int .i64 depth) hb (by go_simp)
  have g1_5 := later (a := ⟨w.heap.size, 5, none⟩) (v := .int .i64 refresh) hb (by go_simp)
  have g1_6 := later (a := ⟨w.heap.size + 1, 0, none⟩) (v := .slice xS lS.length cS) hb (by go_simp)
  have g1_7 := later (a := ⟨w.heap.size + 1, 1, none⟩) (v := .int .i64 tS) hb (by go_simp)
  have g1_8 := later (a := ⟨w.heap.size + 1, 2, none⟩) (v := .bool hS) hb (by go_simp)
  have z1_0 : w.heap.size < w1.heap.size := (by have := hb.size; simp at this; omega)
  have z1_1 : w.heap.size + 1 < w1.heap.size := (by have := hb.size; simp at this; omega)
  replace hB := thru hB hq
  clear hb hq 
  go_wp2_with fail
  go_ret
  exact ⟨rfl, hB⟩


set_option maxRecDepth 100000 in
set_option maxHeartbeats 2000000 in
theorem tell_00 (nm : ByteArray) (kind : Int) (out : Bool) (size depth refresh : Int) (xS : Option Addr) (lS : List UInt8) (cS : Nat) (tS : Int) (hS : Bool) (now : Int) (y : Option Addr) (d : List UInt8) (c : Nat) (w : World) (m1 : ¬ 200 < (lS.length : Int)) (m2 : ¬ 200 < (d.length : Int)) (yS : Bts w xS lS) (yD : Bts w y d) {ag : Int} (q1 : writeS kind size depth refresh lS tS hS now d = (d, now, true)) (r1 : writeCode kind size depth refresh lS tS hS now d = 0) (q2 : readS kind size depth refresh lS tS hS now = (lS, decide (ag ≤ refresh), 0)) (q3 : ageS kind size depth refresh lS tS hS now = (ag, 0))  : Calls Try.prog 3 #[.agg #[.string nm, .int .u8 kind, .bool out, .int .i64 size, .int .i64 depth, .int .i64 refresh], .agg #[.slice xS lS.length cS, .int .i64 tS, .bool hS], .int .i64 now, .slice y d.length c] w fun e w' => e = .returned (.bool true) ∧ Below w.heap.size w w' := by
  have hB := Below.refl w.heap.size w
  go_enter Try.func3, Try.ntmps3
  go_wp2_with fail
  have YS := yS
  have YD := yD
  refine wp_region_sched (fun W => W.cell? ⟨w.heap.size, 0, none⟩ = some (.string nm) ∧ W.cell? ⟨w.heap.size, 1, none⟩ = some (.int .u8 kind) ∧ W.cell? ⟨w.heap.size, 2, none⟩ = some (.bool out) ∧ W.cell? ⟨w.heap.size, 3, none⟩ = some (.int .i64 size) ∧ W.cell? ⟨w.heap.size, 4, none⟩ = some (.int .i64 depth) ∧ W.cell? ⟨w.heap.size, 5, none⟩ = some (.int .i64 refresh) ∧ W.cell? ⟨w.heap.size + 1, 0, none⟩ = some (.slice xS lS.length cS) ∧ W.cell? ⟨w.heap.size + 1, 1, none⟩ = some (.int .i64 tS) ∧ W.cell? ⟨w.heap.size + 1, 2, none⟩ = some (.bool hS) ∧ w.heap.size < W.heap.size ∧ w.heap.size + 1 < W.heap.size ∧ Bts W xS lS ∧ Bts W y d ∧ Below w.heap.size w W) (.done [0, 1, 2, 3, 4, 5, 6]) (by kernel_rfl) (by kernel_rfl) (fun _ _ _ _ _ h => h) ⟨(by go_simp), (by go_simp), (by go_simp), (by go_simp), (by go_simp), (by go_simp), (by go_simp), (by go_simp), (by go_simp), (by simp <;> omega), (by simp <;> omega), (yS.later (al (al (Below.refl _ w) _) _).drew), (yD.later (al (al (Below.refl _ w) _) _).drew), (thru hB (al (al (Below.refl _ w) _) _)).drew⟩ ?_
  clear hB yS yD
  rintro Wa ⟨g1_0, g1_1, g1_2, g1_3, g1_4, g1_5, g1_6, g1_7, g1_8, z1_0, z1_1, yS, yD, hB⟩
  have ZA := z1_1
  rw [wpSched]
  simp only [pick, List.map_cons, List.map_nil, Array.getD_eq_getD_getElem?, List.getElem?_toArray, List.getElem?_cons_succ, List.getElem?_cons_zero, Option.getD_some]
  have kg1_6 := plusW_cell g1_6
  have cv1 := fun z => run_conv (P := Try.prog) (src := 24) (dst := 9) Try.underlying24 Try.underlying5 Try.underlying9 (yS.later (plusW_below Wa z)) cS
  have cv2 := fun z => run_conv (P := Try.prog) (src := 24) (dst := 9) Try.underlying24 Try.underlying5 Try.underlying9 (yD.later (plusW_below Wa z)) c
  repeat (first | go_big_quiet_step (fail) | quiet_step (fail))
  refine wpQuiet_nil ?_
  clear kg1_6
  clear cv1 cv2
  go_wp2_with fail
  refine (write_one _ _ _ _ _ _ _ _ _ _ _ _ _ _ _ _ yS (by omega) yD (by omega) q1 r1).mono ?_
  rintro e w2 ⟨x1, c1, rfl, ho, hb⟩
  have yT := ho.bts
  have rT := AnyRow.of_owns ho
  clear ho
  have hq := thru (Below.refl _ Wa) hb
  have g2_0 := later hq g1_0
  have g2_1 := later hq g1_1
  have g2_2 := later hq g1_2
  have g2_3 := later hq g1_3
  have g2_4 := later hq g1_4
  have g2_5 := later hq g1_5
  have g2_6 := later hq g1_6
  have g2_7 := later hq g1_7
  have g2_8 := later hq g1_8
  have z2_0 : w.heap.size < w2.heap.size := Nat.lt_of_lt_of_le z1_0 hq.size
  have z2_1 : w.heap.size + 1 < w2.heap.size := Nat.lt_of_lt_of_le z1_1 hq.size
  replace hB := thru hB hq
  replace yS := yS.later hq
  replace yD := yD.later hq
  clear hb hq g1_0 g1_1 g1_2 g1_3 g1_4 g1_5 g1_6 g1_7 g1_8 z1_0 z1_1
  have ZB := z2_1
  go_wp2_with fail
  refine (read_one _ _ _ _ _ _ _ _ _ _ _ _ _ (yS.later (al (Below.refl _ w2) _)) (by omega) q2).mono ?_
  rintro e w3 ⟨x3, c3, rfl, ho, hb⟩
  have yA := ho.bts
  have rA := AnyRow.of_owns (owns_weaken (B' := w2.heap.size + 1) ho (by simp))
  clear ho
  have hq := thru (al (Below.refl _ w2) _) hb
  have g3_0 := later hq g2_0
  have g3_1 := later hq g2_1
  have g3_2 := later hq g2_2
  have g3_3 := later hq g2_3
  have g3_4 := later hq g2_4
  have g3_5 := later hq g2_5
  have g3_6 := later hq g2_6
  have g3_7 := later hq g2_7
  have g3_8 := later hq g2_8
  have g3_9 := later (a := ⟨w2.heap.size, 0, none⟩) (v := .slice x1 d.length c1) hb (by go_simp)
  have g3_10 := later (a := ⟨w2.heap.size, 1, none⟩) (v := .int .i64 now) hb (by go_simp)
  have g3_11 := later (a := ⟨w2.heap.size, 2, none⟩) (v := .bool true) hb (by go_simp)
  have z3_0 : w.heap.size < w3.heap.size := Nat.lt_of_lt_of_le z2_0 hq.size
  have z3_1 : w.heap.size + 1 < w3.heap.size := Nat.lt_of_lt_of_le z2_1 hq.size
  have z3_2 : w2.heap.size < w3.heap.size := (by have := hb.size; simp at this; omega)
  replace hB := thru hB hq
  replace yS := yS.later hq
  replace yD := yD.later hq
  replace yT := yT.later hq
  replace rT := rT.later hq
  clear hb hq g2_0 g2_1 g2_2 g2_3 g2_4 g2_5 g2_6 g2_7 g2_8 z2_0 z2_1
  go_wp2_with fail
  refine (age_one _ _ _ _ _ _ _ _ _ _ _ _ _).mono ?_
  rintro e w4 ⟨rfl, hb⟩
  rw [q3]
  have hq := thru (Below.refl _ w3) hb
  have g4_0 := later hq g3_0
  have g4_1 := later hq g3_1
  have g4_2 := later hq g3_2
  have g4_3 := later hq g3_3
  have g4_4 := later hq g3_4
  have g4_5 := later hq g3_5
  have g4_6 := later hq g3_6
  have g4_7 := later hq g3_7
  have g4_8 := later hq g3_8
  have g4_9 := later hq g3_9
  have g4_10 := later hq g3_10
  have g4_11 := later hq g3_11
  have z4_0 : w.heap.size < w4.heap.size := Nat.lt_of_lt_of_le z3_0 hq.size
  have z4_1 : w.heap.size + 1 < w4.heap.size := Nat.lt_of_lt_of_le z3_1 hq.size
  have z4_2 : w2.heap.size < w4.heap.size := Nat.lt_of_lt_of_le z3_2 hq.size
  replace hB := thru hB hq
  replace yS := yS.later hq
  replace yD := yD.later hq
  replace yT := yT.later hq
  replace rT := rT.later hq
  replace yA := yA.later hq
  replace rA := rA.later hq
  clear hb hq g3_0 g3_1 g3_2 g3_3 g3_4 g3_5 g3_6 g3_7 g3_8 g3_9 g3_10 g3_11 z3_0 z3_1 z3_2
  go_wp2_with fail
  refine wp_region_sched (fun W => W.cell? ⟨w.heap.size, 0, none⟩ = some (.string nm) ∧ W.cell? ⟨w.heap.size, 1, none⟩ = some (.int .u8 kind) ∧ W.cell? ⟨w.heap.size, 2, none⟩ = some (.bool out) ∧ W.cell? ⟨w.heap.size, 3, none⟩ = some (.int .i64 size) ∧ W.cell? ⟨w.heap.size, 4, none⟩ = some (.int .i64 depth) ∧ W.cell? ⟨w.heap.size, 5, none⟩ = some (.int .i64 refresh) ∧ W.cell? ⟨w.heap.size + 1, 0, none⟩ = some (.slice xS lS.length cS) ∧ W.cell? ⟨w.heap.size + 1, 1, none⟩ = some (.int .i64 tS) ∧ W.cell? ⟨w.heap.size + 1, 2, none⟩ = some (.bool hS) ∧ W.cell? ⟨w2.heap.size, 0, none⟩ = some (.slice x1 d.length c1) ∧ W.cell? ⟨w2.heap.size, 1, none⟩ = some (.int .i64 now) ∧ W.cell? ⟨w2.heap.size, 2, none⟩ = some (.bool true) ∧ w.heap.size < W.heap.size ∧ w.heap.size + 1 < W.heap.size ∧ w2.heap.size < W.heap.size ∧ Bts W xS lS ∧ Bts W y d ∧ Bts W x1 d ∧ AnyRow Wa.heap.size w2.heap.size W x1 d.length ∧ Bts W x3 lS ∧ AnyRow (w2.heap.size + 1) w3.heap.size W x3 lS.length ∧ Below w.heap.size w W) (.one [0, 1, 3, 4, 5, 6, 7, 8, 9] 2 (.one [] 10 (.one [11, 12, 13, 14, 15, 16, 17, 18, 19, 20, 21, 22] 23 (.done [24, 25])))) (by kernel_rfl) (by kernel_rfl) (fun _ _ _ _ _ h => h) ⟨(by go_simp), (by go_simp), (by go_simp), (by go_simp), (by go_simp), (by go_simp), (by go_simp), (by go_simp), (by go_simp), (by go_simp), (by go_simp), (by go_simp), (by simp <;> omega), (by simp <;> omega), (by simp <;> omega), yS, yD, yT, rT, yA, rA, hB.drew⟩ ?_
  clear hB g4_0 g4_1 g4_2 g4_3 g4_4 g4_5 g4_6 g4_7 g4_8 g4_9 g4_10 g4_11 z4_0 z4_1 z4_2 yS yD yT rT yA rA
  rintro Wb ⟨g5_0, g5_1, g5_2, g5_3, g5_4, g5_5, g5_6, g5_7, g5_8, g5_9, g5_10, g5_11, z5_0, z5_1, z5_2, yS, yD, yT, rT, yA, rA, hB⟩
  rw [wpSched]
  simp only [pick, List.map_cons, List.map_nil, Array.getD_eq_getD_getElem?, List.getElem?_toArray, List.getElem?_cons_succ, List.getElem?_cons_zero, Option.getD_some]
  have kg5_0 := plusW_cell g5_0
  have kg5_1 := plusW_cell g5_1
  have kg5_2 := plusW_cell g5_2
  have kg5_3 := plusW_cell g5_3
  have kg5_4 := plusW_cell g5_4
  have kg5_5 := plusW_cell g5_5
  have kg5_6 := plusW_cell g5_6
  have kg5_7 := plusW_cell g5_7
  have kg5_8 := plusW_cell g5_8
  repeat (first | go_big_quiet_step (fail) | quiet_step (fail))
  refine wpQuiet_nil ?_
  clear kg5_0 kg5_1 kg5_2 kg5_3 kg5_4 kg5_5 kg5_6 kg5_7 kg5_8
  refine heavy_want (by rfl) (fun K' hK' => ?_)
  go_simp
  refine (Valid_any _ _ _ _ _ _ _ _ _ _ _ _).mono ?_
  rintro e w5 ⟨rfl, hb⟩
  refine hK' _ _ hb ?_
  clear hK' K'
  have hq := thru (Below.refl _ Wb) hb
  clear hb
  have g6_0 := later hq g5_0
  have g6_1 := later hq g5_1
  have g6_2 := later hq g5_2
  have g6_3 := later hq g5_3
  have g6_4 := later hq g5_4
  have g6_5 := later hq g5_5
  have g6_6 := later hq g5_6
  have g6_7 := later hq g5_7
  have g6_8 := later hq g5_8
  have g6_9 := later hq g5_9
  have g6_10 := later hq g5_10
  have g6_11 := later hq g5_11
  have z6_0 : w.heap.size < w5.heap.size := Nat.lt_of_lt_of_le z5_0 hq.size
  have z6_1 : w.heap.size + 1 < w5.heap.size := Nat.lt_of_lt_of_le z5_1 hq.size
  have z6_2 : w2.heap.size < w5.heap.size := Nat.lt_of_lt_of_le z5_2 hq.size
  replace hB := thru hB hq
  replace yS := yS.later hq
  replace yD := yD.later hq
  replace yT := yT.later hq
  replace rT := rT.later hq
  replace yA := yA.later hq
  replace rA := rA.later hq
  clear hq g5_0 g5_1 g5_2 g5_3 g5_4 g5_5 g5_6 g5_7 g5_8 g5_9 g5_10 g5_11 z5_0 z5_1 z5_2
  try simp only [Act.put, List.setIfInBounds_toArray, List.set_cons_zero, List.set_cons_succ]
  rw [wpSched]
  simp only [pick, List.map_cons, List.map_nil, Array.getD_eq_getD_getElem?, List.getElem?_toArray, List.getElem?_cons_succ, List.getElem?_cons_zero, Option.getD_some]
  repeat (first | go_big_quiet_step (fail) | quiet_step (fail))
  refine wpQuiet_nil ?_
  refine heavy_want (by rfl) (fun K' hK' => ?_)
  go_simp
  refine (ref_valid _ _ _ _ _ _ _ _ _ _ _ _).mono ?_
  rintro e w6 ⟨rfl, hb⟩
  refine hK' _ _ hb ?_
  clear hK' K'
  have hq := thru (Below.refl _ w5) hb
  clear hb
  have g7_0 := later hq g6_0
  have g7_1 := later hq g6_1
  have g7_2 := later hq g6_2
  have g7_3 := later hq g6_3
  have g7_4 := later hq g6_4
  have g7_5 := later hq g6_5
  have g7_6 := later hq g6_6
  have g7_7 := later hq g6_7
  have g7_8 := later hq g6_8
  have g7_9 := later hq g6_9
  have g7_10 := later hq g6_10
  have g7_11 := later hq g6_11
  have z7_0 : w.heap.size < w6.heap.size := Nat.lt_of_lt_of_le z6_0 hq.size
  have z7_1 : w.heap.size + 1 < w6.heap.size := Nat.lt_of_lt_of_le z6_1 hq.size
  have z7_2 : w2.heap.size < w6.heap.size := Nat.lt_of_lt_of_le z6_2 hq.size
  replace hB := thru hB hq
  replace yS := yS.later hq
  replace yD := yD.later hq
  replace yT := yT.later hq
  replace rT := rT.later hq
  replace yA := yA.later hq
  replace rA := rA.later hq
  clear hq g6_0 g6_1 g6_2 g6_3 g6_4 g6_5 g6_6 g6_7 g6_8 g6_9 g6_10 g6_11 z6_0 z6_1 z6_2
  try simp only [Act.put, List.setIfInBounds_toArray, List.set_cons_zero, List.set_cons_succ]
  rw [wpSched]
  simp only [pick, List.map_cons, List.map_nil, Array.getD_eq_getD_getElem?, List.getElem?_toArray, List.getElem?_cons_succ, List.getElem?_cons_zero, Option.getD_some]
  have kg7_0 := plusW_cell g7_0
  have kg7_1 := plusW_cell g7_1
  have kg7_2 := plusW_cell g7_2
  have kg7_3 := plusW_cell g7_3
  have kg7_4 := plusW_cell g7_4
  have kg7_5 := plusW_cell g7_5
  have kg7_6 := plusW_cell g7_6
  have kg7_7 := plusW_cell g7_7
  have kg7_8 := plusW_cell g7_8
  repeat (first | go_big_quiet_step (fail) | quiet_step (fail))
  refine wpQuiet_nil ?_
  clear kg7_0 kg7_1 kg7_2 kg7_3 kg7_4 kg7_5 kg7_6 kg7_7 kg7_8
  refine heavy_want (by rfl) (fun K' hK' => ?_)
  go_simp
  refine (ref_write _ _ _ _ _ _ _ _ _ _ _ _ _ _ _ _).mono ?_
  rintro e w7 ⟨rfl, hb⟩
  refine hK' _ _ hb ?_
  clear hK' K'
  rw [r1]
  have hq := thru (Below.refl _ w6) hb
  clear hb
  have g8_0 := later hq g7_0
  have g8_1 := later hq g7_1
  have g8_2 := later hq g7_2
  have g8_3 := later hq g7_3
  have g8_4 := later hq g7_4
  have g8_5 := later hq g7_5
  have g8_6 := later hq g7_6
  have g8_7 := later hq g7_7
  have g8_8 := later hq g7_8
  have g8_9 := later hq g7_9
  have g8_10 := later hq g7_10
  have g8_11 := later hq g7_11
  have z8_0 : w.heap.size < w7.heap.size := Nat.lt_of_lt_of_le z7_0 hq.size
  have z8_1 : w.heap.size + 1 < w7.heap.size := Nat.lt_of_lt_of_le z7_1 hq.size
  have z8_2 : w2.heap.size < w7.heap.size := Nat.lt_of_lt_of_le z7_2 hq.size
  replace hB := thru hB hq
  replace yS := yS.later hq
  replace yD := yD.later hq
  replace yT := yT.later hq
  replace rT := rT.later hq
  replace yA := yA.later hq
  replace rA := rA.later hq
  clear hq g7_0 g7_1 g7_2 g7_3 g7_4 g7_5 g7_6 g7_7 g7_8 g7_9 g7_10 g7_11 z7_0 z7_1 z7_2
  try simp only [Act.put, List.setIfInBounds_toArray, List.set_cons_zero, List.set_cons_succ]
  rw [wpSched]
  simp only [pick, List.map_cons, List.map_nil, Array.getD_eq_getD_getElem?, List.getElem?_toArray, List.getElem?_cons_succ, List.getElem?_cons_zero, Option.getD_some]
  repeat (first | go_big_quiet_step (fail) | quiet_step (fail))
  refine wpQuiet_nil ?_
  go_wp2_with fail
  refine (ref_read _ _ _ _ _ _ _ _ _ _ _ _ _).mono ?_
  rintro e w8 ⟨rfl, hb⟩
  rw [q3]
  have hq := thru (al (Below.refl _ w7) _) hb
  have g9_0 := later hq g8_0
  have g9_1 := later hq g8_1
  have g9_2 := later hq g8_2
  have g9_3 := later hq g8_3
  have g9_4 := later hq g8_4
  have g9_5 := later hq g8_5
  have g9_6 := later hq g8_6
  have g9_7 := later hq g8_7
  have g9_8 := later hq g8_8
  have g9_9 := later hq g8_9
  have g9_10 := later hq g8_10
  have g9_11 := later hq g8_11
  have g9_12 := later (a := ⟨w7.heap.size, 0, none⟩) (v := .slice y d.length c) hb (by go_simp)
  have g9_13 := later (a := ⟨w7.heap.size, 1, none⟩) (v := .int .i64 now) hb (by go_simp)
  have g9_14 := later (a := ⟨w7.heap.size, 2, none⟩) (v := .bool true) hb (by go_simp)
  have z9_0 : w.heap.size < w8.heap.size := Nat.lt_of_lt_of_le z8_0 hq.size
  have z9_1 : w.heap.size + 1 < w8.heap.size := Nat.lt_of_lt_of_le z8_1 hq.size
  have z9_2 : w2.heap.size < w8.heap.size := Nat.lt_of_lt_of_le z8_2 hq.size
  have z9_3 : w7.heap.size < w8.heap.size := (by have := hb.size; simp at this; omega)
  replace hB := thru hB hq
  replace yS := yS.later hq
  replace yD := yD.later hq
  replace yT := yT.later hq
  replace rT := rT.later hq
  replace yA := yA.later hq
  replace rA := rA.later hq
  clear hb hq g8_0 g8_1 g8_2 g8_3 g8_4 g8_5 g8_6 g8_7 g8_8 g8_9 g8_10 g8_11 z8_0 z8_1 z8_2
  go_wp2_with fail
  refine (same_any _ _ _ _ _ _ _ _ _ _ _ yT yD).mono ?_
  rintro e w9 ⟨rfl, hb⟩
  rw [show sameB d now true d now true = true by simp [sameB]]
  have hq := thru (Below.refl _ w8) hb
  have g10_0 := later hq g9_0
  have g10_1 := later hq g9_1
  have g10_2 := later hq g9_2
  have g10_3 := later hq g9_3
  have g10_4 := later hq g9_4
  have g10_5 := later hq g9_5
  have g10_6 := later hq g9_6
  have g10_7 := later hq g9_7
  have g10_8 := later hq g9_8
  have g10_9 := later hq g9_9
  have g10_10 := later hq g9_10
  have g10_11 := later hq g9_11
  have g10_12 := later hq g9_12
  have g10_13 := later hq g9_13
  have g10_14 := later hq g9_14
  have z10_0 : w.heap.size < w9.heap.size := Nat.lt_of_lt_of_le z9_0 hq.size
  have z10_1 : w.heap.size + 1 < w9.heap.size := Nat.lt_of_lt_of_le z9_1 hq.size
  have z10_2 : w2.heap.size < w9.heap.size := Nat.lt_of_lt_of_le z9_2 hq.size
  have z10_3 : w7.heap.size < w9.heap.size := Nat.lt_of_lt_of_le z9_3 hq.size
  replace hB := thru hB hq
  replace yS := yS.later hq
  replace yD := yD.later hq
  replace yT := yT.later hq
  replace rT := rT.later hq
  replace yA := yA.later hq
  replace rA := rA.later hq
  clear hb hq g9_0 g9_1 g9_2 g9_3 g9_4 g9_5 g9_6 g9_7 g9_8 g9_9 g9_10 g9_11 g9_12 g9_13 g9_14 z9_0 z9_1 z9_2 z9_3
  have cv1 := run_conv (P := Try.prog) (src := 24) (dst := 9) Try.underlying24 Try.underlying5 Try.underlying9 yA c3
  go_wp2_with fail
  have hK : (IncK w (w.heap.size + 1) w2.heap.size (.slice xS lS.length cS) (.slice x1 d.length c1) Wa.heap.size w2.heap.size (w2.heap.size + 1) w3.heap.size x1 d.length x3 lS.length) w9 := ⟨hB, g10_6, g10_9, rT, rA⟩
  clear hB yS yD yT rT yA rA g10_0 g10_1 g10_2 g10_3 g10_4 g10_5 g10_6 g10_7 g10_8 g10_9 g10_10 g10_11 g10_12 g10_13 g10_14 z10_0 z10_1 z10_2 z10_3 cv1
  have HK := Lib.hid hK
  clear hK
  go_loopw [157] (fun i wr => IncRel (IncK w (w.heap.size + 1) w2.heap.size (.slice xS lS.length cS) (.slice x1 d.length c1) Wa.heap.size w2.heap.size (w2.heap.size + 1) w3.heap.size x1 d.length x3 lS.length) d.length i wr) (fun i _ => d.length - (intOf i).toNat)
  case atStart => exact ⟨0, Nat.zero_le _, rfl, HK.out⟩
  case round =>
    obtain ⟨j, hj, rfl, hK⟩ := hrel
    by_cases hlt : j < d.length
    · obtain ⟨-, kS, kT, rT, rA⟩ := id hK
      obtain ⟨b, rfl, hb1, hb2, hc⟩ := rT.resolve_left (by omega)
      obtain ⟨⟨c0, hcell⟩, hfr⟩ := hc j hlt
      unfold encB at hcell
      have h256 : (c0.toNat : Int) < 256 := by have := c0.toNat_lt; omega
      have HK := Lib.hid hK
      clear hK rT rA hc
      go_wp2_with fail
      refine ⟨⟨j + 1, by omega, by simp, ?_⟩, by simp [intOf]; omega⟩
      rw [enc_of (by omega) (by omega)]
      exact HK.out.set1 hb1 hb2 (by omega) (by omega) (by omega) (by omega) j _
    · obtain rfl : j = d.length := by omega
      clear hlt hj HK
      have HK := Lib.hid hK
      clear hK
      go_wp2_with fail
      go_loopw [170] (fun i wr => IncRel (IncK w (w.heap.size + 1) w2.heap.size (.slice xS lS.length cS) (.slice x1 d.length c1) Wa.heap.size w2.heap.size (w2.heap.size + 1) w3.heap.size x1 d.length x3 lS.length) lS.length i wr) (fun i _ => lS.length - (intOf i).toNat)
      case atStart => exact ⟨0, Nat.zero_le _, rfl, HK.out⟩
      case round =>
        obtain ⟨j, hj, rfl, hK⟩ := hrel
        by_cases hlt : j < lS.length
        · obtain ⟨-, kS, kT, rT, rA⟩ := id hK
          obtain ⟨b, rfl, hb1, hb2, hc⟩ := rA.resolve_left (by omega)
          obtain ⟨⟨c0, hcell⟩, hfr⟩ := hc j hlt
          unfold encB at hcell
          have h256 : (c0.toNat : Int) < 256 := by have := c0.toNat_lt; omega
          have HK := Lib.hid hK
          clear hK rT rA hc
          go_wp2_with fail
          refine ⟨⟨j + 1, by omega, by simp, ?_⟩, by simp [intOf]; omega⟩
          rw [enc_of (by omega) (by omega)]
          exact HK.out.set2 hb1 hb2 (by omega) (by omega) (by omega) (by omega) (by omega) (by omega) j _
        · obtain rfl : j = lS.length := by omega
          clear hlt hj HK
          obtain ⟨hB, kS, -, -, -⟩ := hK
          have cv1 := run_conv (P := Try.prog) (src := 24) (dst := 9) Try.underlying24 Try.underlying5 Try.underlying9 (YS.later hB) cS
          have cv2 := run_conv (P := Try.prog) (src := 24) (dst := 9) Try.underlying24 Try.underlying5 Try.underlying9 (YD.later hB) c
          clear YS YD
          go_wp2_with fail
          refine (awake_any _).mono ?_
          rintro e w10 ⟨rfl, hb⟩
          replace hB := thru hB hb
          go_wp2_with fail
          go_ret
          exact ⟨rfl, hB⟩


set_option maxRecDepth 100000 in
set_option maxHeartbeats 2000000 in
theorem tell_01 (nm : ByteArray) (kind : Int) (out : Bool) (size depth refresh : Int) (xS : Option Addr) (lS : List UInt8) (cS : Nat) (tS : Int) (hS : Bool) (now : Int) (y : Option Addr) (d : List UInt8) (c : Nat) (w : World) (m1 : ¬ 200 < (lS.length : Int)) (m2 : ¬ 200 < (d.length : Int)) (yS : Bts w xS lS) (yD : Bts w y d) {cd : Int} (q1 : writeS kind size depth refresh lS tS hS now d = (d, now, true)) (r1 : writeCode kind size depth refresh lS tS hS now d = 0) (q2 : readS kind size depth refresh lS tS hS now = ([], false, cd)) (q3 : ageS kind size depth refresh lS tS hS now = (0, cd)) (e2 : ¬ cd = 0)  : Calls Try.prog 3 #[.agg #[.string nm, .int .u8 kind, .bool out, .int .i64 size, .int .i64 depth, .int .i64 refresh], .agg #[.slice xS lS.length cS, .int .i64 tS, .bool hS], .int .i64 now, .slice y d.length c] w fun e w' => e = .returned (.bool true) ∧ Below w.heap.size w w' := by
  have hB := Below.refl w.heap.size w
  go_enter Try.func3, Try.ntmps3
  go_wp2_with fail
  have YS := yS
  have YD := yD
  refine wp_region_sched (fun W => W.cell? ⟨w.heap.size, 0, none⟩ = some (.string nm) ∧ W.cell? ⟨w.heap.size, 1, none⟩ = some (.int .u8 kind) ∧ W.cell? ⟨w.heap.size, 2, none⟩ = some (.bool out) ∧ W.cell? ⟨w.heap.size, 3, none⟩ = some (.int .i64 size) ∧ W.cell? ⟨w.heap.size, 4, none⟩ = some (.int .i64 depth) ∧ W.cell? ⟨w.heap.size, 5, none⟩ = some (.int .i64 refresh) ∧ W.cell? ⟨w.heap.size + 1, 0, none⟩ = some (.slice xS lS.length cS) ∧ W.cell? ⟨w.heap.size + 1, 1, none⟩ = some (.int .i64 tS) ∧ W.cell? ⟨w.heap.size + 1, 2, none⟩ = some (.bool hS) ∧ w.heap.size < W.heap.size ∧ w.heap.size + 1 < W.heap.size ∧ Bts W xS lS ∧ Bts W y d ∧ Below w.heap.size w W) (.done [0, 1, 2, 3, 4, 5, 6]) (by kernel_rfl) (by kernel_rfl) (fun _ _ _ _ _ h => h) ⟨(by go_simp), (by go_simp), (by go_simp), (by go_simp), (by go_simp), (by go_simp), (by go_simp), (by go_simp), (by go_simp), (by simp <;> omega), (by simp <;> omega), (yS.later (al (al (Below.refl _ w) _) _).drew), (yD.later (al (al (Below.refl _ w) _) _).drew), (thru hB (al (al (Below.refl _ w) _) _)).drew⟩ ?_
  clear hB yS yD
  rintro Wa ⟨g1_0, g1_1, g1_2, g1_3, g1_4, g1_5, g1_6, g1_7, g1_8, z1_0, z1_1, yS, yD, hB⟩
  have ZA := z1_1
  rw [wpSched]
  simp only [pick, List.map_cons, List.map_nil, Array.getD_eq_getD_getElem?, List.getElem?_toArray, List.getElem?_cons_succ, List.getElem?_cons_zero, Option.getD_some]
  have kg1_6 := plusW_cell g1_6
  have cv1 := fun z => run_conv (P := Try.prog) (src := 24) (dst := 9) Try.underlying24 Try.underlying5 Try.underlying9 (yS.later (plusW_below Wa z)) cS
  have cv2 := fun z => run_conv (P := Try.prog) (src := 24) (dst := 9) Try.underlying24 Try.underlying5 Try.underlying9 (yD.later (plusW_below Wa z)) c
  repeat (first | go_big_quiet_step (fail) | quiet_step (fail))
  refine wpQuiet_nil ?_
  clear kg1_6
  clear cv1 cv2
  go_wp2_with fail
  refine (write_one _ _ _ _ _ _ _ _ _ _ _ _ _ _ _ _ yS (by omega) yD (by omega) q1 r1).mono ?_
  rintro e w2 ⟨x1, c1, rfl, ho, hb⟩
  have yT := ho.bts
  have rT := AnyRow.of_owns ho
  clear ho
  have hq := thru (Below.refl _ Wa) hb
  have g2_0 := later hq g1_0
  have g2_1 := later hq g1_1
  have g2_2 := later hq g1_2
  have g2_3 := later hq g1_3
  have g2_4 := later hq g1_4
  have g2_5 := later hq g1_5
  have g2_6 := later hq g1_6
  have g2_7 := later hq g1_7
  have g2_8 := later hq g1_8
  have z2_0 : w.heap.size < w2.heap.size := Nat.lt_of_lt_of_le z1_0 hq.size
  have z2_1 : w.heap.size + 1 < w2.heap.size := Nat.lt_of_lt_of_le z1_1 hq.size
  replace hB := thru hB hq
  replace yS := yS.later hq
  replace yD := yD.later hq
  clear hb hq g1_0 g1_1 g1_2 g1_3 g1_4 g1_5 g1_6 g1_7 g1_8 z1_0 z1_1
  have ZB := z2_1
  go_wp2_with fail
  refine (read_one _ _ _ _ _ _ _ _ _ _ _ _ _ (yS.later (al (Below.refl _ w2) _)) (by omega) q2).mono ?_
  rintro e w3 ⟨x3, c3, rfl, ho, hb⟩
  have yA := ho.bts
  have rA := AnyRow.of_owns (owns_weaken (B' := w2.heap.size + 1) ho (by simp))
  clear ho
  have hq := thru (al (Below.refl _ w2) _) hb
  have g3_0 := later hq g2_0
  have g3_1 := later hq g2_1
  have g3_2 := later hq g2_2
  have g3_3 := later hq g2_3
  have g3_4 := later hq g2_4
  have g3_5 := later hq g2_5
  have g3_6 := later hq g2_6
  have g3_7 := later hq g2_7
  have g3_8 := later hq g2_8
  have g3_9 := later (a := ⟨w2.heap.size, 0, none⟩) (v := .slice x1 d.length c1) hb (by go_simp)
  have g3_10 := later (a := ⟨w2.heap.size, 1, none⟩) (v := .int .i64 now) hb (by go_simp)
  have g3_11 := later (a := ⟨w2.heap.size, 2, none⟩) (v := .bool true) hb (by go_simp)
  have z3_0 : w.heap.size < w3.heap.size := Nat.lt_of_lt_of_le z2_0 hq.size
  have z3_1 : w.heap.size + 1 < w3.heap.size := Nat.lt_of_lt_of_le z2_1 hq.size
  have z3_2 : w2.heap.size < w3.heap.size := (by have := hb.size; simp at this; omega)
  replace hB := thru hB hq
  replace yS := yS.later hq
  replace yD := yD.later hq
  replace yT := yT.later hq
  replace rT := rT.later hq
  clear hb hq g2_0 g2_1 g2_2 g2_3 g2_4 g2_5 g2_6 g2_7 g2_8 z2_0 z2_1
  go_wp2_with fail
  refine (age_one _ _ _ _ _ _ _ _ _ _ _ _ _).mono ?_
  rintro e w4 ⟨rfl, hb⟩
  rw [q3]
  have hq := thru (Below.refl _ w3) hb
  have g4_0 := later hq g3_0
  have g4_1 := later hq g3_1
  have g4_2 := later hq g3_2
  have g4_3 := later hq g3_3
  have g4_4 := later hq g3_4
  have g4_5 := later hq g3_5
  have g4_6 := later hq g3_6
  have g4_7 := later hq g3_7
  have g4_8 := later hq g3_8
  have g4_9 := later hq g3_9
  have g4_10 := later hq g3_10
  have g4_11 := later hq g3_11
  have z4_0 : w.heap.size < w4.heap.size := Nat.lt_of_lt_of_le z3_0 hq.size
  have z4_1 : w.heap.size + 1 < w4.heap.size := Nat.lt_of_lt_of_le z3_1 hq.size
  have z4_2 : w2.heap.size < w4.heap.size := Nat.lt_of_lt_of_le z3_2 hq.size
  replace hB := thru hB hq
  replace yS := yS.later hq
  replace yD := yD.later hq
  replace yT := yT.later hq
  replace rT := rT.later hq
  replace yA := yA.later hq
  replace rA := rA.later hq
  clear hb hq g3_0 g3_1 g3_2 g3_3 g3_4 g3_5 g3_6 g3_7 g3_8 g3_9 g3_10 g3_11 z3_0 z3_1 z3_2
  go_wp2_with fail
  refine wp_region_sched (fun W => W.cell? ⟨w.heap.size, 0, none⟩ = some (.string nm) ∧ W.cell? ⟨w.heap.size, 1, none⟩ = some (.int .u8 kind) ∧ W.cell? ⟨w.heap.size, 2, none⟩ = some (.bool out) ∧ W.cell? ⟨w.heap.size, 3, none⟩ = some (.int .i64 size) ∧ W.cell? ⟨w.heap.size, 4, none⟩ = some (.int .i64 depth) ∧ W.cell? ⟨w.heap.size, 5, none⟩ = some (.int .i64 refresh) ∧ W.cell? ⟨w.heap.size + 1, 0, none⟩ = some (.slice xS lS.length cS) ∧ W.cell? ⟨w.heap.size + 1, 1, none⟩ = some (.int .i64 tS) ∧ W.cell? ⟨w.heap.size + 1, 2, none⟩ = some (.bool hS) ∧ W.cell? ⟨w2.heap.size, 0, none⟩ = some (.slice x1 d.length c1) ∧ W.cell? ⟨w2.heap.size, 1, none⟩ = some (.int .i64 now) ∧ W.cell? ⟨w2.heap.size, 2, none⟩ = some (.bool true) ∧ w.heap.size < W.heap.size ∧ w.heap.size + 1 < W.heap.size ∧ w2.heap.size < W.heap.size ∧ Bts W xS lS ∧ Bts W y d ∧ Bts W x1 d ∧ AnyRow Wa.heap.size w2.heap.size W x1 d.length ∧ Bts W x3 ([] : List UInt8) ∧ AnyRow (w2.heap.size + 1) w3.heap.size W x3 ([] : List UInt8).length ∧ Below w.heap.size w W) (.one [0, 1, 3, 4, 5, 6, 7, 8, 9] 2 (.one [] 10 (.one [11, 12, 13, 14, 15, 16, 17, 18, 19, 20, 21, 22] 23 (.done [24, 25])))) (by kernel_rfl) (by kernel_rfl) (fun _ _ _ _ _ h => h) ⟨(by go_simp), (by go_simp), (by go_simp), (by go_simp), (by go_simp), (by go_simp), (by go_simp), (by go_simp), (by go_simp), (by go_simp), (by go_simp), (by go_simp), (by simp <;> omega), (by simp <;> omega), (by simp <;> omega), yS, yD, yT, rT, yA, rA, hB.drew⟩ ?_
  clear hB g4_0 g4_1 g4_2 g4_3 g4_4 g4_5 g4_6 g4_7 g4_8 g4_9 g4_10 g4_11 z4_0 z4_1 z4_2 yS yD yT rT yA rA
  rintro Wb ⟨g5_0, g5_1, g5_2, g5_3, g5_4, g5_5, g5_6, g5_7, g5_8, g5_9, g5_10, g5_11, z5_0, z5_1, z5_2, yS, yD, yT, rT, yA, rA, hB⟩
  rw [wpSched]
  simp only [pick, List.map_cons, List.map_nil, Array.getD_eq_getD_getElem?, List.getElem?_toArray, List.getElem?_cons_succ, List.getElem?_cons_zero, Option.getD_some]
  have kg5_0 := plusW_cell g5_0
  have kg5_1 := plusW_cell g5_1
  have kg5_2 := plusW_cell g5_2
  have kg5_3 := plusW_cell g5_3
  have kg5_4 := plusW_cell g5_4
  have kg5_5 := plusW_cell g5_5
  have kg5_6 := plusW_cell g5_6
  have kg5_7 := plusW_cell g5_7
  have kg5_8 := plusW_cell g5_8
  repeat (first | go_big_quiet_step (fail) | quiet_step (fail))
  refine wpQuiet_nil ?_
  clear kg5_0 kg5_1 kg5_2 kg5_3 kg5_4 kg5_5 kg5_6 kg5_7 kg5_8
  refine heavy_want (by rfl) (fun K' hK' => ?_)
  go_simp
  refine (Valid_any _ _ _ _ _ _ _ _ _ _ _ _).mono ?_
  rintro e w5 ⟨rfl, hb⟩
  refine hK' _ _ hb ?_
  clear hK' K'
  have hq := thru (Below.refl _ Wb) hb
  clear hb
  have g6_0 := later hq g5_0
  have g6_1 := later hq g5_1
  have g6_2 := later hq g5_2
  have g6_3 := later hq g5_3
  have g6_4 := later hq g5_4
  have g6_5 := later hq g5_5
  have g6_6 := later hq g5_6
  have g6_7 := later hq g5_7
  have g6_8 := later hq g5_8
  have g6_9 := later hq g5_9
  have g6_10 := later hq g5_10
  have g6_11 := later hq g5_11
  have z6_0 : w.heap.size < w5.heap.size := Nat.lt_of_lt_of_le z5_0 hq.size
  have z6_1 : w.heap.size + 1 < w5.heap.size := Nat.lt_of_lt_of_le z5_1 hq.size
  have z6_2 : w2.heap.size < w5.heap.size := Nat.lt_of_lt_of_le z5_2 hq.size
  replace hB := thru hB hq
  replace yS := yS.later hq
  replace yD := yD.later hq
  replace yT := yT.later hq
  replace rT := rT.later hq
  replace yA := yA.later hq
  replace rA := rA.later hq
  clear hq g5_0 g5_1 g5_2 g5_3 g5_4 g5_5 g5_6 g5_7 g5_8 g5_9 g5_10 g5_11 z5_0 z5_1 z5_2
  try simp only [Act.put, List.setIfInBounds_toArray, List.set_cons_zero, List.set_cons_succ]
  rw [wpSched]
  simp only [pick, List.map_cons, List.map_nil, Array.getD_eq_getD_getElem?, List.getElem?_toArray, List.getElem?_cons_succ, List.getElem?_cons_zero, Option.getD_some]
  repeat (first | go_big_quiet_step (fail) | quiet_step (fail))
  refine wpQuiet_nil ?_
  refine heavy_want (by rfl) (fun K' hK' => ?_)
  go_simp
  refine (ref_valid _ _ _ _ _ _ _ _ _ _ _ _).mono ?_
  rintro e w6 ⟨rfl, hb⟩
  refine hK' _ _ hb ?_
  clear hK' K'
  have hq := thru (Below.refl _ w5) hb
  clear hb
  have g7_0 := later hq g6_0
  have g7_1 := later hq g6_1
  have g7_2 := later hq g6_2
  have g7_3 := later hq g6_3
  have g7_4 := later hq g6_4
  have g7_5 := later hq g6_5
  have g7_6 := later hq g6_6
  have g7_7 := later hq g6_7
  have g7_8 := later hq g6_8
  have g7_9 := later hq g6_9
  have g7_10 := later hq g6_10
  have g7_11 := later hq g6_11
  have z7_0 : w.heap.size < w6.heap.size := Nat.lt_of_lt_of_le z6_0 hq.size
  have z7_1 : w.heap.size + 1 < w6.heap.size := Nat.lt_of_lt_of_le z6_1 hq.size
  have z7_2 : w2.heap.size < w6.heap.size := Nat.lt_of_lt_of_le z6_2 hq.size
  replace hB := thru hB hq
  replace yS := yS.later hq
  replace yD := yD.later hq
  replace yT := yT.later hq
  replace rT := rT.later hq
  replace yA := yA.later hq
  replace rA := rA.later hq
  clear hq g6_0 g6_1 g6_2 g6_3 g6_4 g6_5 g6_6 g6_7 g6_8 g6_9 g6_10 g6_11 z6_0 z6_1 z6_2
  try simp only [Act.put, List.setIfInBounds_toArray, List.set_cons_zero, List.set_cons_succ]
  rw [wpSched]
  simp only [pick, List.map_cons, List.map_nil, Array.getD_eq_getD_getElem?, List.getElem?_toArray, List.getElem?_cons_succ, List.getElem?_cons_zero, Option.getD_some]
  have kg7_0 := plusW_cell g7_0
  have kg7_1 := plusW_cell g7_1
  have kg7_2 := plusW_cell g7_2
  have kg7_3 := plusW_cell g7_3
  have kg7_4 := plusW_cell g7_4
  have kg7_5 := plusW_cell g7_5
  have kg7_6 := plusW_cell g7_6
  have kg7_7 := plusW_cell g7_7
  have kg7_8 := plusW_cell g7_8
  repeat (first | go_big_quiet_step (fail) | quiet_step (fail))
  refine wpQuiet_nil ?_
  clear kg7_0 kg7_1 kg7_2 kg7_3 kg7_4 kg7_5 kg7_6 kg7_7 kg7_8
  refine heavy_want (by rfl) (fun K' hK' => ?_)
  go_simp
  refine (ref_write _ _ _ _ _ _ _ _ _ _ _ _ _ _ _ _).mono ?_
  rintro e w7 ⟨rfl, hb⟩
  refine hK' _ _ hb ?_
  clear hK' K'
  rw [r1]
  have hq := thru (Below.refl _ w6) hb
  clear hb
  have g8_0 := later hq g7_0
  have g8_1 := later hq g7_1
  have g8_2 := later hq g7_2
  have g8_3 := later hq g7_3
  have g8_4 := later hq g7_4
  have g8_5 := later hq g7_5
  have g8_6 := later hq g7_6
  have g8_7 := later hq g7_7
  have g8_8 := later hq g7_8
  have g8_9 := later hq g7_9
  have g8_10 := later hq g7_10
  have g8_11 := later hq g7_11
  have z8_0 : w.heap.size < w7.heap.size := Nat.lt_of_lt_of_le z7_0 hq.size
  have z8_1 : w.heap.size + 1 < w7.heap.size := Nat.lt_of_lt_of_le z7_1 hq.size
  have z8_2 : w2.heap.size < w7.heap.size := Nat.lt_of_lt_of_le z7_2 hq.size
  replace hB := thru hB hq
  replace yS := yS.later hq
  replace yD := yD.later hq
  replace yT := yT.later hq
  replace rT := rT.later hq
  replace yA := yA.later hq
  replace rA := rA.later hq
  clear hq g7_0 g7_1 g7_2 g7_3 g7_4 g7_5 g7_6 g7_7 g7_8 g7_9 g7_10 g7_11 z7_0 z7_1 z7_2
  try simp only [Act.put, List.setIfInBounds_toArray, List.set_cons_zero, List.set_cons_succ]
  rw [wpSched]
  simp only [pick, List.map_cons, List.map_nil, Array.getD_eq_getD_getElem?, List.getElem?_toArray, List.getElem?_cons_succ, List.getElem?_cons_zero, Option.getD_some]
  repeat (first | go_big_quiet_step (fail) | quiet_step (fail))
  refine wpQuiet_nil ?_
  go_wp2_with fail
  refine (ref_read _ _ _ _ _ _ _ _ _ _ _ _ _).mono ?_
  rintro e w8 ⟨rfl, hb⟩
  rw [q3]
  have hq := thru (al (Below.refl _ w7) _) hb
  have g9_0 := later hq g8_0
  have g9_1 := later hq g8_1
  have g9_2 := later hq g8_2
  have g9_3 := later hq g8_3
  have g9_4 := later hq g8_4
  have g9_5 := later hq g8_5
  have g9_6 := later hq g8_6
  have g9_7 := later hq g8_7
  have g9_8 := later hq g8_8
  have g9_9 := later hq g8_9
  have g9_10 := later hq g8_10
  have g9_11 := later hq g8_11
  have g9_12 := later (a := ⟨w7.heap.size, 0, none⟩) (v := .slice y d.length c) hb (by go_simp)
  have g9_13 := later (a := ⟨w7.heap.size, 1, none⟩) (v := .int .i64 now) hb (by go_simp)
  have g9_14 := later (a := ⟨w7.heap.size, 2, none⟩) (v := .bool true) hb (by go_simp)
  have z9_0 : w.heap.size < w8.heap.size := Nat.lt_of_lt_of_le z8_0 hq.size
  have z9_1 : w.heap.size + 1 < w8.heap.size := Nat.lt_of_lt_of_le z8_1 hq.size
  have z9_2 : w2.heap.size < w8.heap.size := Nat.lt_of_lt_of_le z8_2 hq.size
  have z9_3 : w7.heap.size < w8.heap.size := (by have := hb.size; simp at this; omega)
  replace hB := thru hB hq
  replace yS := yS.later hq
  replace yD := yD.later hq
  replace yT := yT.later hq
  replace rT := rT.later hq
  replace yA := yA.later hq
  replace rA := rA.later hq
  clear hb hq g8_0 g8_1 g8_2 g8_3 g8_4 g8_5 g8_6 g8_7 g8_8 g8_9 g8_10 g8_11 z8_0 z8_1 z8_2
  go_wp2_with fail
  refine (same_any _ _ _ _ _ _ _ _ _ _ _ yT yD).mono ?_
  rintro e w9 ⟨rfl, hb⟩
  rw [show sameB d now true d now true = true by simp [sameB]]
  have hq := thru (Below.refl _ w8) hb
  have g10_0 := later hq g9_0
  have g10_1 := later hq g9_1
  have g10_2 := later hq g9_2
  have g10_3 := later hq g9_3
  have g10_4 := later hq g9_4
  have g10_5 := later hq g9_5
  have g10_6 := later hq g9_6
  have g10_7 := later hq g9_7
  have g10_8 := later hq g9_8
  have g10_9 := later hq g9_9
  have g10_10 := later hq g9_10
  have g10_11 := later hq g9_11
  have g10_12 := later hq g9_12
  have g10_13 := later hq g9_13
  have g10_14 := later hq g9_14
  have z10_0 : w.heap.size < w9.heap.size := Nat.lt_of_lt_of_le z9_0 hq.size
  have z10_1 : w.heap.size + 1 < w9.heap.size := Nat.lt_of_lt_of_le z9_1 hq.size
  have z10_2 : w2.heap.size < w9.heap.size := Nat.lt_of_lt_of_le z9_2 hq.size
  have z10_3 : w7.heap.size < w9.heap.size := Nat.lt_of_lt_of_le z9_3 hq.size
  replace hB := thru hB hq
  replace yS := yS.later hq
  replace yD := yD.later hq
  replace yT := yT.later hq
  replace rT := rT.later hq
  replace yA := yA.later hq
  replace rA := rA.later hq
  clear hb hq g9_0 g9_1 g9_2 g9_3 g9_4 g9_5 g9_6 g9_7 g9_8 g9_9 g9_10 g9_11 g9_12 g9_13 g9_14 z9_0 z9_1 z9_2 z9_3
  go_wp2_with fail
  have hK : (IncK w (w.heap.size + 1) w2.heap.size (.slice xS lS.length cS) (.slice x1 d.length c1) Wa.heap.size w2.heap.size (w2.heap.size + 1) w3.heap.size x1 d.length x3 ([] : List UInt8).length) w9 := ⟨hB, g10_6, g10_9, rT, rA⟩
  clear hB yS yD yT rT yA rA g10_0 g10_1 g10_2 g10_3 g10_4 g10_5 g10_6 g10_7 g10_8 g10_9 g10_10 g10_11 g10_12 g10_13 g10_14 z10_0 z10_1 z10_2 z10_3
  have HK := Lib.hid hK
  clear hK
  go_loopw [157] (fun i wr => IncRel (IncK w (w.heap.size + 1) w2.heap.size (.slice xS lS.length cS) (.slice x1 d.length c1) Wa.heap.size w2.heap.size (w2.heap.size + 1) w3.heap.size x1 d.length x3 ([] : List UInt8).length) d.length i wr) (fun i _ => d.length - (intOf i).toNat)
  case atStart => exact ⟨0, Nat.zero_le _, rfl, HK.out⟩
  case round =>
    obtain ⟨j, hj, rfl, hK⟩ := hrel
    by_cases hlt : j < d.length
    · obtain ⟨-, kS, kT, rT, rA⟩ := id hK
      obtain ⟨b, rfl, hb1, hb2, hc⟩ := rT.resolve_left (by omega)
      obtain ⟨⟨c0, hcell⟩, hfr⟩ := hc j hlt
      unfold encB at hcell
      have h256 : (c0.toNat : Int) < 256 := by have := c0.toNat_lt; omega
      have HK := Lib.hid hK
      clear hK rT rA hc
      go_wp2_with fail
      refine ⟨⟨j + 1, by omega, by simp, ?_⟩, by simp [intOf]; omega⟩
      rw [enc_of (by omega) (by omega)]
      exact HK.out.set1 hb1 hb2 (by omega) (by omega) (by omega) (by omega) j _
    · obtain rfl : j = d.length := by omega
      clear hlt hj HK
      have HK := Lib.hid hK
      clear hK
      go_wp2_with fail
      go_loopw [170] (fun i wr => IncRel (IncK w (w.heap.size + 1) w2.heap.size (.slice xS lS.length cS) (.slice x1 d.length c1) Wa.heap.size w2.heap.size (w2.heap.size + 1) w3.heap.size x1 d.length x3 ([] : List UInt8).length) ([] : List UInt8).length i wr) (fun i _ => ([] : List UInt8).length - (intOf i).toNat)
      case atStart => exact ⟨0, Nat.zero_le _, rfl, HK.out⟩
      case round =>
        obtain ⟨j, hj, rfl, hK⟩ := hrel
        by_cases hlt : j < ([] : List UInt8).length
        · exact absurd hlt (Nat.not_lt_zero _)
        · obtain rfl : j = 0 := by simpa using hj
          clear hj hlt HK
          obtain ⟨hB, kS, -, -, -⟩ := hK
          have cv1 := run_conv (P := Try.prog) (src := 24) (dst := 9) Try.underlying24 Try.underlying5 Try.underlying9 (YS.later hB) cS
          have cv2 := run_conv (P := Try.prog) (src := 24) (dst := 9) Try.underlying24 Try.underlying5 Try.underlying9 (YD.later hB) c
          clear YS YD
          go_wp2_with fail
          refine (awake_any _).mono ?_
          rintro e w10 ⟨rfl, hb⟩
          replace hB := thru hB hb
          go_wp2_with fail
          go_ret
          exact ⟨rfl, hB⟩


set_option maxRecDepth 100000 in
set_option maxHeartbeats 2000000 in
theorem tell_10 (nm : ByteArray) (kind : Int) (out : Bool) (size depth refresh : Int) (xS : Option Addr) (lS : List UInt8) (cS : Nat) (tS : Int) (hS : Bool) (now : Int) (y : Option Addr) (d : List UInt8) (c : Nat) (w : World) (m1 : ¬ 200 < (lS.length : Int)) (m2 : ¬ 200 < (d.length : Int)) (yS : Bts w xS lS) (yD : Bts w y d) {k : Int} {ag : Int} (q1 : writeS kind size depth refresh lS tS hS now d = (lS, tS, hS)) (r1 : writeCode kind size depth refresh lS tS hS now d = k) (q2 : readS kind size depth refresh lS tS hS now = (lS, decide (ag ≤ refresh), 0)) (q3 : ageS kind size depth refresh lS tS hS now = (ag, 0)) (e1 : ¬ k = 0)  : Calls Try.prog 3 #[.agg #[.string nm, .int .u8 kind, .bool out, .int .i64 size, .int .i64 depth, .int .i64 refresh], .agg #[.slice xS lS.length cS, .int .i64 tS, .bool hS], .int .i64 now, .slice y d.length c] w fun e w' => e = .returned (.bool true) ∧ Below w.heap.size w w' := by
  have hB := Below.refl w.heap.size w
  go_enter Try.func3, Try.ntmps3
  go_wp2_with fail
  have YS := yS
  have YD := yD
  refine wp_region_sched (fun W => W.cell? ⟨w.heap.size, 0, none⟩ = some (.string nm) ∧ W.cell? ⟨w.heap.size, 1, none⟩ = some (.int .u8 kind) ∧ W.cell? ⟨w.heap.size, 2, none⟩ = some (.bool out) ∧ W.cell? ⟨w.heap.size, 3, none⟩ = some (.int .i64 size) ∧ W.cell? ⟨w.heap.size, 4, none⟩ = some (.int .i64 depth) ∧ W.cell? ⟨w.heap.size, 5, none⟩ = some (.int .i64 refresh) ∧ W.cell? ⟨w.heap.size + 1, 0, none⟩ = some (.slice xS lS.length cS) ∧ W.cell? ⟨w.heap.size + 1, 1, none⟩ = some (.int .i64 tS) ∧ W.cell? ⟨w.heap.size + 1, 2, none⟩ = some (.bool hS) ∧ w.heap.size < W.heap.size ∧ w.heap.size + 1 < W.heap.size ∧ Bts W xS lS ∧ Bts W y d ∧ Below w.heap.size w W) (.done [0, 1, 2, 3, 4, 5, 6]) (by kernel_rfl) (by kernel_rfl) (fun _ _ _ _ _ h => h) ⟨(by go_simp), (by go_simp), (by go_simp), (by go_simp), (by go_simp), (by go_simp), (by go_simp), (by go_simp), (by go_simp), (by simp <;> omega), (by simp <;> omega), (yS.later (al (al (Below.refl _ w) _) _).drew), (yD.later (al (al (Below.refl _ w) _) _).drew), (thru hB (al (al (Below.refl _ w) _) _)).drew⟩ ?_
  clear hB yS yD
  rintro Wa ⟨g1_0, g1_1, g1_2, g1_3, g1_4, g1_5, g1_6, g1_7, g1_8, z1_0, z1_1, yS, yD, hB⟩
  have ZA := z1_1
  rw [wpSched]
  simp only [pick, List.map_cons, List.map_nil, Array.getD_eq_getD_getElem?, List.getElem?_toArray, List.getElem?_cons_succ, List.getElem?_cons_zero, Option.getD_some]
  have kg1_6 := plusW_cell g1_6
  have cv1 := fun z => run_conv (P := Try.prog) (src := 24) (dst := 9) Try.underlying24 Try.underlying5 Try.underlying9 (yS.later (plusW_below Wa z)) cS
  have cv2 := fun z => run_conv (P := Try.prog) (src := 24) (dst := 9) Try.underlying24 Try.underlying5 Try.underlying9 (yD.later (plusW_below Wa z)) c
  repeat (first | go_big_quiet_step (fail) | quiet_step (fail))
  refine wpQuiet_nil ?_
  clear kg1_6
  clear cv1 cv2
  go_wp2_with fail
  refine (write_one _ _ _ _ _ _ _ _ _ _ _ _ _ _ _ _ yS (by omega) yD (by omega) q1 r1).mono ?_
  rintro e w2 ⟨x1, c1, rfl, ho, hb⟩
  have yT := ho.bts
  have rT := AnyRow.of_owns ho
  clear ho
  have hq := thru (Below.refl _ Wa) hb
  have g2_0 := later hq g1_0
  have g2_1 := later hq g1_1
  have g2_2 := later hq g1_2
  have g2_3 := later hq g1_3
  have g2_4 := later hq g1_4
  have g2_5 := later hq g1_5
  have g2_6 := later hq g1_6
  have g2_7 := later hq g1_7
  have g2_8 := later hq g1_8
  have z2_0 : w.heap.size < w2.heap.size := Nat.lt_of_lt_of_le z1_0 hq.size
  have z2_1 : w.heap.size + 1 < w2.heap.size := Nat.lt_of_lt_of_le z1_1 hq.size
  replace hB := thru hB hq
  replace yS := yS.later hq
  replace yD := yD.later hq
  clear hb hq g1_0 g1_1 g1_2 g1_3 g1_4 g1_5 g1_6 g1_7 g1_8 z1_0 z1_1
  have ZB := z2_1
  go_wp2_with fail
  refine (read_one _ _ _ _ _ _ _ _ _ _ _ _ _ (yS.later (al (Below.refl _ w2) _)) (by omega) q2).mono ?_
  rintro e w3 ⟨x3, c3, rfl, ho, hb⟩
  have yA := ho.bts
  have rA := AnyRow.of_owns (owns_weaken (B' := w2.heap.size + 1) ho (by simp))
  clear ho
  have hq := thru (al (Below.refl _ w2) _) hb
  have g3_0 := later hq g2_0
  have g3_1 := later hq g2_1
  have g3_2 := later hq g2_2
  have g3_3 := later hq g2_3
  have g3_4 := later hq g2_4
  have g3_5 := later hq g2_5
  have g3_6 := later hq g2_6
  have g3_7 := later hq g2_7
  have g3_8 := later hq g2_8
  have g3_9 := later (a := ⟨w2.heap.size, 0, none⟩) (v := .slice x1 lS.length c1) hb (by go_simp)
  have g3_10 := later (a := ⟨w2.heap.size, 1, none⟩) (v := .int .i64 tS) hb (by go_simp)
  have g3_11 := later (a := ⟨w2.heap.size, 2, none⟩) (v := .bool hS) hb (by go_simp)
  have z3_0 : w.heap.size < w3.heap.size := Nat.lt_of_lt_of_le z2_0 hq.size
  have z3_1 : w.heap.size + 1 < w3.heap.size := Nat.lt_of_lt_of_le z2_1 hq.size
  have z3_2 : w2.heap.size < w3.heap.size := (by have := hb.size; simp at this; omega)
  replace hB := thru hB hq
  replace yS := yS.later hq
  replace yD := yD.later hq
  replace yT := yT.later hq
  replace rT := rT.later hq
  clear hb hq g2_0 g2_1 g2_2 g2_3 g2_4 g2_5 g2_6 g2_7 g2_8 z2_0 z2_1
  go_wp2_with fail
  refine (age_one _ _ _ _ _ _ _ _ _ _ _ _ _).mono ?_
  rintro e w4 ⟨rfl, hb⟩
  rw [q3]
  have hq := thru (Below.refl _ w3) hb
  have g4_0 := later hq g3_0
  have g4_1 := later hq g3_1
  have g4_2 := later hq g3_2
  have g4_3 := later hq g3_3
  have g4_4 := later hq g3_4
  have g4_5 := later hq g3_5
  have g4_6 := later hq g3_6
  have g4_7 := later hq g3_7
  have g4_8 := later hq g3_8
  have g4_9 := later hq g3_9
  have g4_10 := later hq g3_10
  have g4_11 := later hq g3_11
  have z4_0 : w.heap.size < w4.heap.size := Nat.lt_of_lt_of_le z3_0 hq.size
  have z4_1 : w.heap.size + 1 < w4.heap.size := Nat.lt_of_lt_of_le z3_1 hq.size
  have z4_2 : w2.heap.size < w4.heap.size := Nat.lt_of_lt_of_le z3_2 hq.size
  replace hB := thru hB hq
  replace yS := yS.later hq
  replace yD := yD.later hq
  replace yT := yT.later hq
  replace rT := rT.later hq
  replace yA := yA.later hq
  replace rA := rA.later hq
  clear hb hq g3_0 g3_1 g3_2 g3_3 g3_4 g3_5 g3_6 g3_7 g3_8 g3_9 g3_10 g3_11 z3_0 z3_1 z3_2
  go_wp2_with fail
  refine wp_region_sched (fun W => W.cell? ⟨w.heap.size, 0, none⟩ = some (.string nm) ∧ W.cell? ⟨w.heap.size, 1, none⟩ = some (.int .u8 kind) ∧ W.cell? ⟨w.heap.size, 2, none⟩ = some (.bool out) ∧ W.cell? ⟨w.heap.size, 3, none⟩ = some (.int .i64 size) ∧ W.cell? ⟨w.heap.size, 4, none⟩ = some (.int .i64 depth) ∧ W.cell? ⟨w.heap.size, 5, none⟩ = some (.int .i64 refresh) ∧ W.cell? ⟨w.heap.size + 1, 0, none⟩ = some (.slice xS lS.length cS) ∧ W.cell? ⟨w.heap.size + 1, 1, none⟩ = some (.int .i64 tS) ∧ W.cell? ⟨w.heap.size + 1, 2, none⟩ = some (.bool hS) ∧ W.cell? ⟨w2.heap.size, 0, none⟩ = some (.slice x1 lS.length c1) ∧ W.cell? ⟨w2.heap.size, 1, none⟩ = some (.int .i64 tS) ∧ W.cell? ⟨w2.heap.size, 2, none⟩ = some (.bool hS) ∧ w.heap.size < W.heap.size ∧ w.heap.size + 1 < W.heap.size ∧ w2.heap.size < W.heap.size ∧ Bts W xS lS ∧ Bts W y d ∧ Bts W x1 lS ∧ AnyRow Wa.heap.size w2.heap.size W x1 lS.length ∧ Bts W x3 lS ∧ AnyRow (w2.heap.size + 1) w3.heap.size W x3 lS.length ∧ Below w.heap.size w W) (.one [0, 1, 3, 4, 5, 6, 7, 8, 9] 2 (.one [] 10 (.one [11, 12, 13, 14, 15, 16, 17, 18, 19, 20, 21, 22] 23 (.done [24, 25])))) (by kernel_rfl) (by kernel_rfl) (fun _ _ _ _ _ h => h) ⟨(by go_simp), (by go_simp), (by go_simp), (by go_simp), (by go_simp), (by go_simp), (by go_simp), (by go_simp), (by go_simp), (by go_simp), (by go_simp), (by go_simp), (by simp <;> omega), (by simp <;> omega), (by simp <;> omega), yS, yD, yT, rT, yA, rA, hB.drew⟩ ?_
  clear hB g4_0 g4_1 g4_2 g4_3 g4_4 g4_5 g4_6 g4_7 g4_8 g4_9 g4_10 g4_11 z4_0 z4_1 z4_2 yS yD yT rT yA rA
  rintro Wb ⟨g5_0, g5_1, g5_2, g5_3, g5_4, g5_5, g5_6, g5_7, g5_8, g5_9, g5_10, g5_11, z5_0, z5_1, z5_2, yS, yD, yT, rT, yA, rA, hB⟩
  rw [wpSched]
  simp only [pick, List.map_cons, List.map_nil, Array.getD_eq_getD_getElem?, List.getElem?_toArray, List.getElem?_cons_succ, List.getElem?_cons_zero, Option.getD_some]
  have kg5_0 := plusW_cell g5_0
  have kg5_1 := plusW_cell g5_1
  have kg5_2 := plusW_cell g5_2
  have kg5_3 := plusW_cell g5_3
  have kg5_4 := plusW_cell g5_4
  have kg5_5 := plusW_cell g5_5
  have kg5_6 := plusW_cell g5_6
  have kg5_7 := plusW_cell g5_7
  have kg5_8 := plusW_cell g5_8
  repeat (first | go_big_quiet_step (fail) | quiet_step (fail))
  refine wpQuiet_nil ?_
  clear kg5_0 kg5_1 kg5_2 kg5_3 kg5_4 kg5_5 kg5_6 kg5_7 kg5_8
  refine heavy_want (by rfl) (fun K' hK' => ?_)
  go_simp
  refine (Valid_any _ _ _ _ _ _ _ _ _ _ _ _).mono ?_
  rintro e w5 ⟨rfl, hb⟩
  refine hK' _ _ hb ?_
  clear hK' K'
  have hq := thru (Below.refl _ Wb) hb
  clear hb
  have g6_0 := later hq g5_0
  have g6_1 := later hq g5_1
  have g6_2 := later hq g5_2
  have g6_3 := later hq g5_3
  have g6_4 := later hq g5_4
  have g6_5 := later hq g5_5
  have g6_6 := later hq g5_6
  have g6_7 := later hq g5_7
  have g6_8 := later hq g5_8
  have g6_9 := later hq g5_9
  have g6_10 := later hq g5_10
  have g6_11 := later hq g5_11
  have z6_0 : w.heap.size < w5.heap.size := Nat.lt_of_lt_of_le z5_0 hq.size
  have z6_1 : w.heap.size + 1 < w5.heap.size := Nat.lt_of_lt_of_le z5_1 hq.size
  have z6_2 : w2.heap.size < w5.heap.size := Nat.lt_of_lt_of_le z5_2 hq.size
  replace hB := thru hB hq
  replace yS := yS.later hq
  replace yD := yD.later hq
  replace yT := yT.later hq
  replace rT := rT.later hq
  replace yA := yA.later hq
  replace rA := rA.later hq
  clear hq g5_0 g5_1 g5_2 g5_3 g5_4 g5_5 g5_6 g5_7 g5_8 g5_9 g5_10 g5_11 z5_0 z5_1 z5_2
  try simp only [Act.put, List.setIfInBounds_toArray, List.set_cons_zero, List.set_cons_succ]
  rw [wpSched]
  simp only [pick, List.map_cons, List.map_nil, Array.getD_eq_getD_getElem?, List.getElem?_toArray, List.getElem?_cons_succ, List.getElem?_cons_zero, Option.getD_some]
  repeat (first | go_big_quiet_step (fail) | quiet_step (fail))
  refine wpQuiet_nil ?_
  refine heavy_want (by rfl) (fun K' hK' => ?_)
  go_simp
  refine (ref_valid _ _ _ _ _ _ _ _ _ _ _ _).mono ?_
  rintro e w6 ⟨rfl, hb⟩
  refine hK' _ _ hb ?_
  clear hK' K'
  have hq := thru (Below.refl _ w5) hb
  clear hb
  have g7_0 := later hq g6_0
  have g7_1 := later hq g6_1
  have g7_2 := later hq g6_2
  have g7_3 := later hq g6_3
  have g7_4 := later hq g6_4
  have g7_5 := later hq g6_5
  have g7_6 := later hq g6_6
  have g7_7 := later hq g6_7
  have g7_8 := later hq g6_8
  have g7_9 := later hq g6_9
  have g7_10 := later hq g6_10
  have g7_11 := later hq g6_11
  have z7_0 : w.heap.size < w6.heap.size := Nat.lt_of_lt_of_le z6_0 hq.size
  have z7_1 : w.heap.size + 1 < w6.heap.size := Nat.lt_of_lt_of_le z6_1 hq.size
  have z7_2 : w2.heap.size < w6.heap.size := Nat.lt_of_lt_of_le z6_2 hq.size
  replace hB := thru hB hq
  replace yS := yS.later hq
  replace yD := yD.later hq
  replace yT := yT.later hq
  replace rT := rT.later hq
  replace yA := yA.later hq
  replace rA := rA.later hq
  clear hq g6_0 g6_1 g6_2 g6_3 g6_4 g6_5 g6_6 g6_7 g6_8 g6_9 g6_10 g6_11 z6_0 z6_1 z6_2
  try simp only [Act.put, List.setIfInBounds_toArray, List.set_cons_zero, List.set_cons_succ]
  rw [wpSched]
  simp only [pick, List.map_cons, List.map_nil, Array.getD_eq_getD_getElem?, List.getElem?_toArray, List.getElem?_cons_succ, List.getElem?_cons_zero, Option.getD_some]
  have kg7_0 := plusW_cell g7_0
  have kg7_1 := plusW_cell g7_1
  have kg7_2 := plusW_cell g7_2
  have kg7_3 := plusW_cell g7_3
  have kg7_4 := plusW_cell g7_4
  have kg7_5 := plusW_cell g7_5
  have kg7_6 := plusW_cell g7_6
  have kg7_7 := plusW_cell g7_7
  have kg7_8 := plusW_cell g7_8
  repeat (first | go_big_quiet_step (fail) | quiet_step (fail))
  refine wpQuiet_nil ?_
  clear kg7_0 kg7_1 kg7_2 kg7_3 kg7_4 kg7_5 kg7_6 kg7_7 kg7_8
  refine heavy_want (by rfl) (fun K' hK' => ?_)
  go_simp
  refine (ref_write _ _ _ _ _ _ _ _ _ _ _ _ _ _ _ _).mono ?_
  rintro e w7 ⟨rfl, hb⟩
  refine hK' _ _ hb ?_
  clear hK' K'
  rw [r1]
  have hq := thru (Below.refl _ w6) hb
  clear hb
  have g8_0 := later hq g7_0
  have g8_1 := later hq g7_1
  have g8_2 := later hq g7_2
  have g8_3 := later hq g7_3
  have g8_4 := later hq g7_4
  have g8_5 := later hq g7_5
  have g8_6 := later hq g7_6
  have g8_7 := later hq g7_7
  have g8_8 := later hq g7_8
  have g8_9 := later hq g7_9
  have g8_10 := later hq g7_10
  have g8_11 := later hq g7_11
  have z8_0 : w.heap.size < w7.heap.size := Nat.lt_of_lt_of_le z7_0 hq.size
  have z8_1 : w.heap.size + 1 < w7.heap.size := Nat.lt_of_lt_of_le z7_1 hq.size
  have z8_2 : w2.heap.size < w7.heap.size := Nat.lt_of_lt_of_le z7_2 hq.size
  replace hB := thru hB hq
  replace yS := yS.later hq
  replace yD := yD.later hq
  replace yT := yT.later hq
  replace rT := rT.later hq
  replace yA := yA.later hq
  replace rA := rA.later hq
  clear hq g7_0 g7_1 g7_2 g7_3 g7_4 g7_5 g7_6 g7_7 g7_8 g7_9 g7_10 g7_11 z7_0 z7_1 z7_2
  try simp only [Act.put, List.setIfInBounds_toArray, List.set_cons_zero, List.set_cons_succ]
  rw [wpSched]
  simp only [pick, List.map_cons, List.map_nil, Array.getD_eq_getD_getElem?, List.getElem?_toArray, List.getElem?_cons_succ, List.getElem?_cons_zero, Option.getD_some]
  repeat (first | go_big_quiet_step (fail) | quiet_step (fail))
  refine wpQuiet_nil ?_
  go_wp2_with fail
  refine (ref_read _ _ _ _ _ _ _ _ _ _ _ _ _).mono ?_
  rintro e w8 ⟨rfl, hb⟩
  rw [q3]
  have hq := thru (al (Below.refl _ w7) _) hb
  have g9_0 := later hq g8_0
  have g9_1 := later hq g8_1
  have g9_2 := later hq g8_2
  have g9_3 := later hq g8_3
  have g9_4 := later hq g8_4
  have g9_5 := later hq g8_5
  have g9_6 := later hq g8_6
  have g9_7 := later hq g8_7
  have g9_8 := later hq g8_8
  have g9_9 := later hq g8_9
  have g9_10 := later hq g8_10
  have g9_11 := later hq g8_11
  have g9_12 := later (a := ⟨w7.heap.size, 0, none⟩) (v := .slice xS lS.length cS) hb (by go_simp)
  have g9_13 := later (a := ⟨w7.heap.size, 1, none⟩) (v := .int .i64 tS) hb (by go_simp)
  have g9_14 := later (a := ⟨w7.heap.size, 2, none⟩) (v := .bool hS) hb (by go_simp)
  have z9_0 : w.heap.size < w8.heap.size := Nat.lt_of_lt_of_le z8_0 hq.size
  have z9_1 : w.heap.size + 1 < w8.heap.size := Nat.lt_of_lt_of_le z8_1 hq.size
  have z9_2 : w2.heap.size < w8.heap.size := Nat.lt_of_lt_of_le z8_2 hq.size
  have z9_3 : w7.heap.size < w8.heap.size := (by have := hb.size; simp at this; omega)
  replace hB := thru hB hq
  replace yS := yS.later hq
  replace yD := yD.later hq
  replace yT := yT.later hq
  replace rT := rT.later hq
  replace yA := yA.later hq
  replace rA := rA.later hq
  clear hb hq g8_0 g8_1 g8_2 g8_3 g8_4 g8_5 g8_6 g8_7 g8_8 g8_9 g8_10 g8_11 z8_0 z8_1 z8_2
  go_wp2_with fail
  refine (same_any _ _ _ _ _ _ _ _ _ _ _ yT yS).mono ?_
  rintro e w9 ⟨rfl, hb⟩
  rw [show sameB lS tS hS lS tS hS = true by simp [sameB]]
  have hq := thru (Below.refl _ w8) hb
  have g10_0 := later hq g9_0
  have g10_1 := later hq g9_1
  have g10_2 := later hq g9_2
  have g10_3 := later hq g9_3
  have g10_4 := later hq g9_4
  have g10_5 := later hq g9_5
  have g10_6 := later hq g9_6
  have g10_7 := later hq g9_7
  have g10_8 := later hq g9_8
  have g10_9 := later hq g9_9
  have g10_10 := later hq g9_10
  have g10_11 := later hq g9_11
  have g10_12 := later hq g9_12
  have g10_13 := later hq g9_13
  have g10_14 := later hq g9_14
  have z10_0 : w.heap.size < w9.heap.size := Nat.lt_of_lt_of_le z9_0 hq.size
  have z10_1 : w.heap.size + 1 < w9.heap.size := Nat.lt_of_lt_of_le z9_1 hq.size
  have z10_2 : w2.heap.size < w9.heap.size := Nat.lt_of_lt_of_le z9_2 hq.size
  have z10_3 : w7.heap.size < w9.heap.size := Nat.lt_of_lt_of_le z9_3 hq.size
  replace hB := thru hB hq
  replace yS := yS.later hq
  replace yD := yD.later hq
  replace yT := yT.later hq
  replace rT := rT.later hq
  replace yA := yA.later hq
  replace rA := rA.later hq
  clear hb hq g9_0 g9_1 g9_2 g9_3 g9_4 g9_5 g9_6 g9_7 g9_8 g9_9 g9_10 g9_11 g9_12 g9_13 g9_14 z9_0 z9_1 z9_2 z9_3
  have cv1 := run_conv (P := Try.prog) (src := 24) (dst := 9) Try.underlying24 Try.underlying5 Try.underlying9 yA c3
  go_wp2_with fail
  have hK : (IncK w (w.heap.size + 1) w2.heap.size (.slice xS lS.length cS) (.slice x1 lS.length c1) Wa.heap.size w2.heap.size (w2.heap.size + 1) w3.heap.size x1 lS.length x3 lS.length) w9 := ⟨hB, g10_6, g10_9, rT, rA⟩
  clear hB yS yD yT rT yA rA g10_0 g10_1 g10_2 g10_3 g10_4 g10_5 g10_6 g10_7 g10_8 g10_9 g10_10 g10_11 g10_12 g10_13 g10_14 z10_0 z10_1 z10_2 z10_3 cv1
  have HK := Lib.hid hK
  clear hK
  go_loopw [157] (fun i wr => IncRel (IncK w (w.heap.size + 1) w2.heap.size (.slice xS lS.length cS) (.slice x1 lS.length c1) Wa.heap.size w2.heap.size (w2.heap.size + 1) w3.heap.size x1 lS.length x3 lS.length) lS.length i wr) (fun i _ => lS.length - (intOf i).toNat)
  case atStart => exact ⟨0, Nat.zero_le _, rfl, HK.out⟩
  case round =>
    obtain ⟨j, hj, rfl, hK⟩ := hrel
    by_cases hlt : j < lS.length
    · obtain ⟨-, kS, kT, rT, rA⟩ := id hK
      obtain ⟨b, rfl, hb1, hb2, hc⟩ := rT.resolve_left (by omega)
      obtain ⟨⟨c0, hcell⟩, hfr⟩ := hc j hlt
      unfold encB at hcell
      have h256 : (c0.toNat : Int) < 256 := by have := c0.toNat_lt; omega
      have HK := Lib.hid hK
      clear hK rT rA hc
      go_wp2_with fail
      refine ⟨⟨j + 1, by omega, by simp, ?_⟩, by simp [intOf]; omega⟩
      rw [enc_of (by omega) (by omega)]
      exact HK.out.set1 hb1 hb2 (by omega) (by omega) (by omega) (by omega) j _
    · obtain rfl : j = lS.length := by omega
      clear hlt hj HK
      have HK := Lib.hid hK
      clear hK
      go_wp2_with fail
      go_loopw [170] (fun i wr => IncRel (IncK w (w.heap.size + 1) w2.heap.size (.slice xS lS.length cS) (.slice x1 lS.length c1) Wa.heap.size w2.heap.size (w2.heap.size + 1) w3.heap.size x1 lS.length x3 lS.length) lS.length i wr) (fun i _ => lS.length - (intOf i).toNat)
      case atStart => exact ⟨0, Nat.zero_le _, rfl, HK.out⟩
      case round =>
        obtain ⟨j, hj, rfl, hK⟩ := hrel
        by_cases hlt : j < lS.length
        · obtain ⟨-, kS, kT, rT, rA⟩ := id hK
          obtain ⟨b, rfl, hb1, hb2, hc⟩ := rA.resolve_left (by omega)
          obtain ⟨⟨c0, hcell⟩, hfr⟩ := hc j hlt
          unfold encB at hcell
          have h256 : (c0.toNat : Int) < 256 := by have := c0.toNat_lt; omega
          have HK := Lib.hid hK
          clear hK rT rA hc
          go_wp2_with fail
          refine ⟨⟨j + 1, by omega, by simp, ?_⟩, by simp [intOf]; omega⟩
          rw [enc_of (by omega) (by omega)]
          exact HK.out.set2 hb1 hb2 (by omega) (by omega) (by omega) (by omega) (by omega) (by omega) j _
        · obtain rfl : j = lS.length := by omega
          clear hlt hj HK
          obtain ⟨hB, kS, -, -, -⟩ := hK
          have cv1 := run_conv (P := Try.prog) (src := 24) (dst := 9) Try.underlying24 Try.underlying5 Try.underlying9 (YS.later hB) cS
          have cv2 := run_conv (P := Try.prog) (src := 24) (dst := 9) Try.underlying24 Try.underlying5 Try.underlying9 (YD.later hB) c
          clear YS YD
          go_wp2_with fail
          refine (awake_any _).mono ?_
          rintro e w10 ⟨rfl, hb⟩
          replace hB := thru hB hb
          go_wp2_with fail
          go_ret
          exact ⟨rfl, hB⟩


set_option maxRecDepth 100000 in
set_option maxHeartbeats 2000000 in
theorem tell_11 (nm : ByteArray) (kind : Int) (out : Bool) (size depth refresh : Int) (xS : Option Addr) (lS : List UInt8) (cS : Nat) (tS : Int) (hS : Bool) (now : Int) (y : Option Addr) (d : List UInt8) (c : Nat) (w : World) (m1 : ¬ 200 < (lS.length : Int)) (m2 : ¬ 200 < (d.length : Int)) (yS : Bts w xS lS) (yD : Bts w y d) {k : Int} {cd : Int} (q1 : writeS kind size depth refresh lS tS hS now d = (lS, tS, hS)) (r1 : writeCode kind size depth refresh lS tS hS now d = k) (q2 : readS kind size depth refresh lS tS hS now = ([], false, cd)) (q3 : ageS kind size depth refresh lS tS hS now = (0, cd)) (e1 : ¬ k = 0) (e2 : ¬ cd = 0)  : Calls Try.prog 3 #[.agg #[.string nm, .int .u8 kind, .bool out, .int .i64 size, .int .i64 depth, .int .i64 refresh], .agg #[.slice xS lS.length cS, .int .i64 tS, .bool hS], .int .i64 now, .slice y d.length c] w fun e w' => e = .returned (.bool true) ∧ Below w.heap.size w w' := by
  have hB := Below.refl w.heap.size w
  go_enter Try.func3, Try.ntmps3
  go_wp2_with fail
  have YS := yS
  have YD := yD
  refine wp_region_sched (fun W => W.cell? ⟨w.heap.size, 0, none⟩ = some (.string nm) ∧ W.cell? ⟨w.heap.size, 1, none⟩ = some (.int .u8 kind) ∧ W.cell? ⟨w.heap.size, 2, none⟩ = some (.bool out) ∧ W.cell? ⟨w.heap.size, 3, none⟩ = some (.int .i64 size) ∧ W.cell? ⟨w.heap.size, 4, none⟩ = some (.int .i64 depth) ∧ W.cell? ⟨w.heap.size, 5, none⟩ = some (.int .i64 refresh) ∧ W.cell? ⟨w.heap.size + 1, 0, none⟩ = some (.slice xS lS.length cS) ∧ W.cell? ⟨w.heap.size + 1, 1, none⟩ = some (.int .i64 tS) ∧ W.cell? ⟨w.heap.size + 1, 2, none⟩ = some (.bool hS) ∧ w.heap.size < W.heap.size ∧ w.heap.size + 1 < W.heap.size ∧ Bts W xS lS ∧ Bts W y d ∧ Below w.heap.size w W) (.done [0, 1, 2, 3, 4, 5, 6]) (by kernel_rfl) (by kernel_rfl) (fun _ _ _ _ _ h => h) ⟨(by go_simp), (by go_simp), (by go_simp), (by go_simp), (by go_simp), (by go_simp), (by go_simp), (by go_simp), (by go_simp), (by simp <;> omega), (by simp <;> omega), (yS.later (al (al (Below.refl _ w) _) _).drew), (yD.later (al (al (Below.refl _ w) _) _).drew), (thru hB (al (al (Below.refl _ w) _) _)).drew⟩ ?_
  clear hB yS yD
  rintro Wa ⟨g1_0, g1_1, g1_2, g1_3, g1_4, g1_5, g1_6, g1_7, g1_8, z1_0, z1_1, yS, yD, hB⟩
  have ZA := z1_1
  rw [wpSched]
  simp only [pick, List.map_cons, List.map_nil, Array.getD_eq_getD_getElem?, List.getElem?_toArray, List.getElem?_cons_succ, List.getElem?_cons_zero, Option.getD_some]
  have kg1_6 := plusW_cell g1_6
  have cv1 := fun z => run_conv (P := Try.prog) (src := 24) (dst := 9) Try.underlying24 Try.underlying5 Try.underlying9 (yS.later (plusW_below Wa z)) cS
  have cv2 := fun z => run_conv (P := Try.prog) (src := 24) (dst := 9) Try.underlying24 Try.underlying5 Try.underlying9 (yD.later (plusW_below Wa z)) c
  repeat (first | go_big_quiet_step (fail) | quiet_step (fail))
  refine wpQuiet_nil ?_
  clear kg1_6
  clear cv1 cv2
  go_wp2_with fail
  refine (write_one _ _ _ _ _ _ _ _ _ _ _ _ _ _ _ _ yS (by omega) yD (by omega) q1 r1).mono ?_
  rintro e w2 ⟨x1, c1, rfl, ho, hb⟩
  have yT := ho.bts
  have rT := AnyRow.of_owns ho
  clear ho
  have hq := thru (Below.refl _ Wa) hb
  have g2_0 := later hq g1_0
  have g2_1 := later hq g1_1
  have g2_2 := later hq g1_2
  have g2_3 := later hq g1_3
  have g2_4 := later hq g1_4
  have g2_5 := later hq g1_5
  have g2_6 := later hq g1_6
  have g2_7 := later hq g1_7
  have g2_8 := later hq g1_8
  have z2_0 : w.heap.size < w2.heap.size := Nat.lt_of_lt_of_le z1_0 hq.size
  have z2_1 : w.heap.size + 1 < w2.heap.size := Nat.lt_of_lt_of_le z1_1 hq.size
  replace hB := thru hB hq
  replace yS := yS.later hq
  replace yD := yD.later hq
  clear hb hq g1_0 g1_1 g1_2 g1_3 g1_4 g1_5 g1_6 g1_7 g1_8 z1_0 z1_1
  have ZB := z2_1
  go_wp2_with fail
  refine (read_one _ _ _ _ _ _ _ _ _ _ _ _ _ (yS.later (al (Below.refl _ w2) _)) (by omega) q2).mono ?_
  rintro e w3 ⟨x3, c3, rfl, ho, hb⟩
  have yA := ho.bts
  have rA := AnyRow.of_owns (owns_weaken (B' := w2.heap.size + 1) ho (by simp))
  clear ho
  have hq := thru (al (Below.refl _ w2) _) hb
  have g3_0 := later hq g2_0
  have g3_1 := later hq g2_1
  have g3_2 := later hq g2_2
  have g3_3 := later hq g2_3
  have g3_4 := later hq g2_4
  have g3_5 := later hq g2_5
  have g3_6 := later hq g2_6
  have g3_7 := later hq g2_7
  have g3_8 := later hq g2_8
  have g3_9 := later (a := ⟨w2.heap.size, 0, none⟩) (v := .slice x1 lS.length c1) hb (by go_simp)
  have g3_10 := later (a := ⟨w2.heap.size, 1, none⟩) (v := .int .i64 tS) hb (by go_simp)
  have g3_11 := later (a := ⟨w2.heap.size, 2, none⟩) (v := .bool hS) hb (by go_simp)
  have z3_0 : w.heap.size < w3.heap.size := Nat.lt_of_lt_of_le z2_0 hq.size
  have z3_1 : w.heap.size + 1 < w3.heap.size := Nat.lt_of_lt_of_le z2_1 hq.size
  have z3_2 : w2.heap.size < w3.heap.size := (by have := hb.size; simp at this; omega)
  replace hB := thru hB hq
  replace yS := yS.later hq
  replace yD := yD.later hq
  replace yT := yT.later hq
  replace rT := rT.later hq
  clear hb hq g2_0 g2_1 g2_2 g2_3 g2_4 g2_5 g2_6 g2_7 g2_8 z2_0 z2_1
  go_wp2_with fail
  refine (age_one _ _ _ _ _ _ _ _ _ _ _ _ _).mono ?_
  rintro e w4 ⟨rfl, hb⟩
  rw [q3]
  have hq := thru (Below.refl _ w3) hb
  have g4_0 := later hq g3_0
  have g4_1 := later hq g3_1
  have g4_2 := later hq g3_2
  have g4_3 := later hq g3_3
  have g4_4 := later hq g3_4
  have g4_5 := later hq g3_5
  have g4_6 := later hq g3_6
  have g4_7 := later hq g3_7
  have g4_8 := later hq g3_8
  have g4_9 := later hq g3_9
  have g4_10 := later hq g3_10
  have g4_11 := later hq g3_11
  have z4_0 : w.heap.size < w4.heap.size := Nat.lt_of_lt_of_le z3_0 hq.size
  have z4_1 : w.heap.size + 1 < w4.heap.size := Nat.lt_of_lt_of_le z3_1 hq.size
  have z4_2 : w2.heap.size < w4.heap.size := Nat.lt_of_lt_of_le z3_2 hq.size
  replace hB := thru hB hq
  replace yS := yS.later hq
  replace yD := yD.later hq
  replace yT := yT.later hq
  replace rT := rT.later hq
  replace yA := yA.later hq
  replace rA := rA.later hq
  clear hb hq g3_0 g3_1 g3_2 g3_3 g3_4 g3_5 g3_6 g3_7 g3_8 g3_9 g3_10 g3_11 z3_0 z3_1 z3_2
  go_wp2_with fail
  refine wp_region_sched (fun W => W.cell? ⟨w.heap.size, 0, none⟩ = some (.string nm) ∧ W.cell? ⟨w.heap.size, 1, none⟩ = some (.int .u8 kind) ∧ W.cell? ⟨w.heap.size, 2, none⟩ = some (.bool out) ∧ W.cell? ⟨w.heap.size, 3, none⟩ = some (.int .i64 size) ∧ W.cell? ⟨w.heap.size, 4, none⟩ = some (.int .i64 depth) ∧ W.cell? ⟨w.heap.size, 5, none⟩ = some (.int .i64 refresh) ∧ W.cell? ⟨w.heap.size + 1, 0, none⟩ = some (.slice xS lS.length cS) ∧ W.cell? ⟨w.heap.size + 1, 1, none⟩ = some (.int .i64 tS) ∧ W.cell? ⟨w.heap.size + 1, 2, none⟩ = some (.bool hS) ∧ W.cell? ⟨w2.heap.size, 0, none⟩ = some (.slice x1 lS.length c1) ∧ W.cell? ⟨w2.heap.size, 1, none⟩ = some (.int .i64 tS) ∧ W.cell? ⟨w2.heap.size, 2, none⟩ = some (.bool hS) ∧ w.heap.size < W.heap.size ∧ w.heap.size + 1 < W.heap.size ∧ w2.heap.size < W.heap.size ∧ Bts W xS lS ∧ Bts W y d ∧ Bts W x1 lS ∧ AnyRow Wa.heap.size w2.heap.size W x1 lS.length ∧ Bts W x3 ([] : List UInt8) ∧ AnyRow (w2.heap.size + 1) w3.heap.size W x3 ([] : List UInt8).length ∧ Below w.heap.size w W) (.one [0, 1, 3, 4, 5, 6, 7, 8, 9] 2 (.one [] 10 (.one [11, 12, 13, 14, 15, 16, 17, 18, 19, 20, 21, 22] 23 (.done [24, 25])))) (by kernel_rfl) (by kernel_rfl) (fun _ _ _ _ _ h => h) ⟨(by go_simp), (by go_simp), (by go_simp), (by go_simp), (by go_simp), (by go_simp), (by go_simp), (by go_simp), (by go_simp), (by go_simp), (by go_simp), (by go_simp), (by simp <;> omega), (by simp <;> omega), (by simp <;> omega), yS, yD, yT, rT, yA, rA, hB.drew⟩ ?_
  clear hB g4_0 g4_1 g4_2 g4_3 g4_4 g4_5 g4_6 g4_7 g4_8 g4_9 g4_10 g4_11 z4_0 z4_1 z4_2 yS yD yT rT yA rA
  rintro Wb ⟨g5_0, g5_1, g5_2, g5_3, g5_4, g5_5, g5_6, g5_7, g5_8, g5_9, g5_10, g5_11, z5_0, z5_1, z5_2, yS, yD, yT, rT, yA, rA, hB⟩
  rw [wpSched]
  simp only [pick, List.map_cons, List.map_nil, Array.getD_eq_getD_getElem?, List.getElem?_toArray, List.getElem?_cons_succ, List.getElem?_cons_zero, Option.getD_some]
  have kg5_0 := plusW_cell g5_0
  have kg5_1 := plusW_cell g5_1
  have kg5_2 := plusW_cell g5_2
  have kg5_3 := plusW_cell g5_3
  have kg5_4 := plusW_cell g5_4
  have kg5_5 := plusW_cell g5_5
  have kg5_6 := plusW_cell g5_6
  have kg5_7 := plusW_cell g5_7
  have kg5_8 := plusW_cell g5_8
  repeat (first | go_big_quiet_step (fail) | quiet_step (fail))
  refine wpQuiet_nil ?_
  clear kg5_0 kg5_1 kg5_2 kg5_3 kg5_4 kg5_5 kg5_6 kg5_7 kg5_8
  refine heavy_want (by rfl) (fun K' hK' => ?_)
  go_simp
  refine (Valid_any _ _ _ _ _ _ _ _ _ _ _ _).mono ?_
  rintro e w5 ⟨rfl, hb⟩
  refine hK' _ _ hb ?_
  clear hK' K'
  have hq := thru (Below.refl _ Wb) hb
  clear hb
  have g6_0 := later hq g5_0
  have g6_1 := later hq g5_1
  have g6_2 := later hq g5_2
  have g6_3 := later hq g5_3
  have g6_4 := later hq g5_4
  have g6_5 := later hq g5_5
  have g6_6 := later hq g5_6
  have g6_7 := later hq g5_7
  have g6_8 := later hq g5_8
  have g6_9 := later hq g5_9
  have g6_10 := later hq g5_10
  have g6_11 := later hq g5_11
  have z6_0 : w.heap.size < w5.heap.size := Nat.lt_of_lt_of_le z5_0 hq.size
  have z6_1 : w.heap.size + 1 < w5.heap.size := Nat.lt_of_lt_of_le z5_1 hq.size
  have z6_2 : w2.heap.size < w5.heap.size := Nat.lt_of_lt_of_le z5_2 hq.size
  replace hB := thru hB hq
  replace yS := yS.later hq
  replace yD := yD.later hq
  replace yT := yT.later hq
  replace rT := rT.later hq
  replace yA := yA.later hq
  replace rA := rA.later hq
  clear hq g5_0 g5_1 g5_2 g5_3 g5_4 g5_5 g5_6 g5_7 g5_8 g5_9 g5_10 g5_11 z5_0 z5_1 z5_2
  try simp only [Act.put, List.setIfInBounds_toArray, List.set_cons_zero, List.set_cons_succ]
  rw [wpSched]
  simp only [pick, List.map_cons, List.map_nil, Array.getD_eq_getD_getElem?, List.getElem?_toArray, List.getElem?_cons_succ, List.getElem?_cons_zero, Option.getD_some]
  repeat (first | go_big_quiet_step (fail) | quiet_step (fail))
  refine wpQuiet_nil ?_
  refine heavy_want (by rfl) (fun K' hK' => ?_)
  go_simp
  refine (ref_valid _ _ _ _ _ _ _ _ _ _ _ _).mono ?_
  rintro e w6 ⟨rfl, hb⟩
  refine hK' _ _ hb ?_
  clear hK' K'
  have hq := thru (Below.refl _ w5) hb
  clear hb
  have g7_0 := later hq g6_0
  have g7_1 := later hq g6_1
  have g7_2 := later hq g6_2
  have g7_3 := later hq g6_3
  have g7_4 := later hq g6_4
  have g7_5 := later hq g6_5
  have g7_6 := later hq g6_6
  have g7_7 := later hq g6_7
  have g7_8 := later hq g6_8
  have g7_9 := later hq g6_9
  have g7_10 := later hq g6_10
  have g7_11 := later hq g6_11
  have z7_0 : w.heap.size < w6.heap.size := Nat.lt_of_lt_of_le z6_0 hq.size
  have z7_1 : w.heap.size + 1 < w6.heap.size := Nat.lt_of_lt_of_le z6_1 hq.size
  have z7_2 : w2.heap.size < w6.heap.size := Nat.lt_of_lt_of_le z6_2 hq.size
  replace hB := thru hB hq
  replace yS := yS.later hq
  replace yD := yD.later hq
  replace yT := yT.later hq
  replace rT := rT.later hq
  replace yA := yA.later hq
  replace rA := rA.later hq
  clear hq g6_0 g6_1 g6_2 g6_3 g6_4 g6_5 g6_6 g6_7 g6_8 g6_9 g6_10 g6_11 z6_0 z6_1 z6_2
  try simp only [Act.put, List.setIfInBounds_toArray, List.set_cons_zero, List.set_cons_succ]
  rw [wpSched]
  simp only [pick, List.map_cons, List.map_nil, Array.getD_eq_getD_getElem?, List.getElem?_toArray, List.getElem?_cons_succ, List.getElem?_cons_zero, Option.getD_some]
  have kg7_0 := plusW_cell g7_0
  have kg7_1 := plusW_cell g7_1
  have kg7_2 := plusW_cell g7_2
  have kg7_3 := plusW_cell g7_3
  have kg7_4 := plusW_cell g7_4
  have kg7_5 := plusW_cell g7_5
  have kg7_6 := plusW_cell g7_6
  have kg7_7 := plusW_cell g7_7
  have kg7_8 := plusW_cell g7_8
  repeat (first | go_big_quiet_step (fail) | quiet_step (fail))
  refine wpQuiet_nil ?_
  clear kg7_0 kg7_1 kg7_2 kg7_3 kg7_4 kg7_5 kg7_6 kg7_7 kg7_8
  refine heavy_want (by rfl) (fun K' hK' => ?_)
  go_simp
  refine (ref_write _ _ _ _ _ _ _ _ _ _ _ _ _ _ _ _).mono ?_
  rintro e w7 ⟨rfl, hb⟩
  refine hK' _ _ hb ?_
  clear hK' K'
  rw [r1]
  have hq := thru (Below.refl _ w6) hb
  clear hb
  have g8_0 := later hq g7_0
  have g8_1 := later hq g7_1
  have g8_2 := later hq g7_2
  have g8_3 := later hq g7_3
  have g8_4 := later hq g7_4
  have g8_5 := later hq g7_5
  have g8_6 := later hq g7_6
  have g8_7 := later hq g7_7
  have g8_8 := later hq g7_8
  have g8_9 := later hq g7_9
  have g8_10 := later hq g7_10
  have g8_11 := later hq g7_11
  have z8_0 : w.heap.size < w7.heap.size := Nat.lt_of_lt_of_le z7_0 hq.size
  have z8_1 : w.heap.size + 1 < w7.heap.size := Nat.lt_of_lt_of_le z7_1 hq.size
  have z8_2 : w2.heap.size < w7.heap.size := Nat.lt_of_lt_of_le z7_2 hq.size
  replace hB := thru hB hq
  replace yS := yS.later hq
  replace yD := yD.later hq
  replace yT := yT.later hq
  replace rT := rT.later hq
  replace yA := yA.later hq
  replace rA := rA.later hq
  clear hq g7_0 g7_1 g7_2 g7_3 g7_4 g7_5 g7_6 g7_7 g7_8 g7_9 g7_10 g7_11 z7_0 z7_1 z7_2
  try simp only [Act.put, List.setIfInBounds_toArray, List.set_cons_zero, List.set_cons_succ]
  rw [wpSched]
  simp only [pick, List.map_cons, List.map_nil, Array.getD_eq_getD_getElem?, List.getElem?_toArray, List.getElem?_cons_succ, List.getElem?_cons_zero, Option.getD_some]
  repeat (first | go_big_quiet_step (fail) | quiet_step (fail))
  refine wpQuiet_nil ?_
  go_wp2_with fail
  refine (ref_read _ _ _ _ _ _ _ _ _ _ _ _ _).mono ?_
  rintro e w8 ⟨rfl, hb⟩
  rw [q3]
  have hq := thru (al (Below.refl _ w7) _) hb
  have g9_0 := later hq g8_0
  have g9_1 := later hq g8_1
  have g9_2 := later hq g8_2
  have g9_3 := later hq g8_3
  have g9_4 := later hq g8_4
  have g9_5 := later hq g8_5
  have g9_6 := later hq g8_6
  have g9_7 := later hq g8_7
  have g9_8 := later hq g8_8
  have g9_9 := later hq g8_9
  have g9_10 := later hq g8_10
  have g9_11 := later hq g8_11
  have g9_12 := later (a := ⟨w7.heap.size, 0, none⟩) (v := .slice xS lS.length cS) hb (by go_simp)
  have g9_13 := later (a := ⟨w7.heap.size, 1, none⟩) (v := .int .i64 tS) hb (by go_simp)
  have g9_14 := later (a := ⟨w7.heap.size, 2, none⟩) (v := .bool hS) hb (by go_simp)
  have z9_0 : w.heap.size < w8.heap.size := Nat.lt_of_lt_of_le z8_0 hq.size
  have z9_1 : w.heap.size + 1 < w8.heap.size := Nat.lt_of_lt_of_le z8_1 hq.size
  have z9_2 : w2.heap.size < w8.heap.size := Nat.lt_of_lt_of_le z8_2 hq.size
  have z9_3 : w7.heap.size < w8.heap.size := (by have := hb.size; simp at this; omega)
  replace hB := thru hB hq
  replace yS := yS.later hq
  replace yD := yD.later hq
  replace yT := yT.later hq
  replace rT := rT.later hq
  replace yA := yA.later hq
  replace rA := rA.later hq
  clear hb hq g8_0 g8_1 g8_2 g8_3 g8_4 g8_5 g8_6 g8_7 g8_8 g8_9 g8_10 g8_11 z8_0 z8_1 z8_2
  go_wp2_with fail
  refine (same_any _ _ _ _ _ _ _ _ _ _ _ yT yS).mono ?_
  rintro e w9 ⟨rfl, hb⟩
  rw [show sameB lS tS hS lS tS hS = true by simp [sameB]]
  have hq := thru (Below.refl _ w8) hb
  have g10_0 := later hq g9_0
  have g10_1 := later hq g9_1
  have g10_2 := later hq g9_2
  have g10_3 := later hq g9_3
  have g10_4 := later hq g9_4
  have g10_5 := later hq g9_5
  have g10_6 := later hq g9_6
  have g10_7 := later hq g9_7
  have g10_8 := later hq g9_8
  have g10_9 := later hq g9_9
  have g10_10 := later hq g9_10
  have g10_11 := later hq g9_11
  have g10_12 := later hq g9_12
  have g10_13 := later hq g9_13
  have g10_14 := later hq g9_14
  have z10_0 : w.heap.size < w9.heap.size := Nat.lt_of_lt_of_le z9_0 hq.size
  have z10_1 : w.heap.size + 1 < w9.heap.size := Nat.lt_of_lt_of_le z9_1 hq.size
  have z10_2 : w2.heap.size < w9.heap.size := Nat.lt_of_lt_of_le z9_2 hq.size
  have z10_3 : w7.heap.size < w9.heap.size := Nat.lt_of_lt_of_le z9_3 hq.size
  replace hB := thru hB hq
  replace yS := yS.later hq
  replace yD := yD.later hq
  replace yT := yT.later hq
  replace rT := rT.later hq
  replace yA := yA.later hq
  replace rA := rA.later hq
  clear hb hq g9_0 g9_1 g9_2 g9_3 g9_4 g9_5 g9_6 g9_7 g9_8 g9_9 g9_10 g9_11 g9_12 g9_13 g9_14 z9_0 z9_1 z9_2 z9_3
  go_wp2_with fail
  have hK : (IncK w (w.heap.size + 1) w2.heap.size (.slice xS lS.length cS) (.slice x1 lS.length c1) Wa.heap.size w2.heap.size (w2.heap.size + 1) w3.heap.size x1 lS.length x3 ([] : List UInt8).length) w9 := ⟨hB, g10_6, g10_9, rT, rA⟩
  clear hB yS yD yT rT yA rA g10_0 g10_1 g10_2 g10_3 g10_4 g10_5 g10_6 g10_7 g10_8 g10_9 g10_10 g10_11 g10_12 g10_13 g10_14 z10_0 z10_1 z10_2 z10_3
  have HK := Lib.hid hK
  clear hK
  go_loopw [157] (fun i wr => IncRel (IncK w (w.heap.size + 1) w2.heap.size (.slice xS lS.length cS) (.slice x1 lS.length c1) Wa.heap.size w2.heap.size (w2.heap.size + 1) w3.heap.size x1 lS.length x3 ([] : List UInt8).length) lS.length i wr) (fun i _ => lS.length - (intOf i).toNat)
  case atStart => exact ⟨0, Nat.zero_le _, rfl, HK.out⟩
  case round =>
    obtain ⟨j, hj, rfl, hK⟩ := hrel
    by_cases hlt : j < lS.length
    · obtain ⟨-, kS, kT, rT, rA⟩ := id hK
      obtain ⟨b, rfl, hb1, hb2, hc⟩ := rT.resolve_left (by omega)
      obtain ⟨⟨c0, hcell⟩, hfr⟩ := hc j hlt
      unfold encB at hcell
      have h256 : (c0.toNat : Int) < 256 := by have := c0.toNat_lt; omega
      have HK := Lib.hid hK
      clear hK rT rA hc
      go_wp2_with fail
      refine ⟨⟨j + 1, by omega, by simp, ?_⟩, by simp [intOf]; omega⟩
      rw [enc_of (by omega) (by omega)]
      exact HK.out.set1 hb1 hb2 (by omega) (by omega) (by omega) (by omega) j _
    · obtain rfl : j = lS.length := by omega
      clear hlt hj HK
      have HK := Lib.hid hK
      clear hK
      go_wp2_with fail
      go_loopw [170] (fun i wr => IncRel (IncK w (w.heap.size + 1) w2.heap.size (.slice xS lS.length cS) (.slice x1 lS.length c1) Wa.heap.size w2.heap.size (w2.heap.size + 1) w3.heap.size x1 lS.length x3 ([] : List UInt8).length) ([] : List UInt8).length i wr) (fun i _ => ([] : List UInt8).length - (intOf i).toNat)
      case atStart => exact ⟨0, Nat.zero_le _, rfl, HK.out⟩
      case round =>
        obtain ⟨j, hj, rfl, hK⟩ := hrel
        by_cases hlt : j < ([] : List UInt8).length
        · exact absurd hlt (Nat.not_lt_zero _)
        · obtain rfl : j = 0 := by simpa using hj
          clear hj hlt HK
          obtain ⟨hB, kS, -, -, -⟩ := hK
          have cv1 := run_conv (P := Try.prog) (src := 24) (dst := 9) Try.underlying24 Try.underlying5 Try.underlying9 (YS.later hB) cS
          have cv2 := run_conv (P := Try.prog) (src := 24) (dst := 9) Try.underlying24 Try.underlying5 Try.underlying9 (YD.later hB) c
          clear YS YD
          go_wp2_with fail
          refine (awake_any _).mono ?_
          rintro e w10 ⟨rfl, hb⟩
          replace hB := thru hB hb
          go_wp2_with fail
          go_ret
          exact ⟨rfl, hB⟩


theorem tell_any (nm : ByteArray) (kind : Int) (out : Bool) (size depth refresh : Int) (xS : Option Addr) (lS : List UInt8) (cS : Nat) (tS : Int) (hS : Bool) (now : Int) (y : Option Addr) (d : List UInt8) (c : Nat) (w : World) (yS : Bts w xS lS) (yD : Bts w y d) : Calls Try.prog 3 #[.agg #[.string nm, .int .u8 kind, .bool out, .int .i64 size, .int .i64 depth, .int .i64 refresh], .agg #[.slice xS lS.length cS, .int .i64 tS, .bool hS], .int .i64 now, .slice y d.length c] w fun e w' => e = .returned (.bool true) ∧ Below w.heap.size w w' := by
  by_cases m1 : 200 < (lS.length : Int)
  · exact tell_long1 nm kind out size depth refresh xS lS cS tS hS now y d c w m1
  by_cases m2 : 200 < (d.length : Int)
  · exact tell_long2 nm kind out size depth refresh xS lS cS tS hS now y d c w m1 m2
  have hr : (∃ ag, readS kind size depth refresh lS tS hS now = (lS, decide (ag ≤ refresh), 0) ∧ ageS kind size depth refresh lS tS hS now = (ag, 0)) ∨ (∃ cd, readS kind size depth refresh lS tS hS now = ([], false, cd) ∧ ageS kind size depth refresh lS tS hS now = (0, cd) ∧ ¬ cd = 0) := by
    unfold readS ageS
    split
    · exact .inr ⟨2, rfl, rfl, by decide⟩
    · split
      · exact .inr ⟨6, rfl, rfl, by decide⟩
      · exact .inl ⟨now - tS, rfl, rfl⟩
  by_cases h : writeCode kind size depth refresh lS tS hS now d = 0
  · have q1 : writeS kind size depth refresh lS tS hS now d = (d, now, true) := by unfold writeS; rw [if_pos h]
    rcases hr with ⟨ag, q2, q3⟩ | ⟨cd, q2, q3, e2⟩
    · exact tell_00 nm kind out size depth refresh xS lS cS tS hS now y d c w m1 m2 yS yD q1 h q2 q3
    · exact tell_01 nm kind out size depth refresh xS lS cS tS hS now y d c w m1 m2 yS yD q1 h q2 q3 e2
  · have q1 : writeS kind size depth refresh lS tS hS now d = (lS, tS, hS) := by unfold writeS; rw [if_neg h]
    rcases hr with ⟨ag, q2, q3⟩ | ⟨cd, q2, q3, e2⟩
    · exact tell_10 nm kind out size depth refresh xS lS cS tS hS now y d c w m1 m2 yS yD q1 rfl q2 q3 h
    · exact tell_11 nm kind out size depth refresh xS lS cS tS hS now y d c w m1 m2 yS yD q1 rfl q2 q3 h e2


end Go.Proofs.Ytmeaelahmajheaa
