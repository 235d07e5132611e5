/- WALKS of the laws: SamplingLast. -/
import Derived.Test.YtmeaelahmajheaaWalksG
import Derived.Test.YtmeaelahmajheaaWalksH
import Derived.LoopTactic
import Derived.Deep.OwnRows
namespace Go.Proofs.Ytmeaelahmajheaa
open Go.RowKit

/-- The acts that came in. -/
def Acts (w : World) (xa : Option Addr) (n : Nat) : Prop := n = 0 ∨ ∃ b o, xa = some ⟨b, o, none⟩ ∧ ∀ i, i < n → ∃ (wait : Int) (x : Option Addr) (d : List UInt8) (c : Nat), 0 ≤ wait ∧ wait ≤ 65535 ∧ w.cell? ⟨b, o + i * 2, none⟩ = some (.int .u16 wait) ∧ w.cell? ⟨b, o + i * 2 + 1, none⟩ = some (.slice x d.length c) ∧ Bts w x d

/-- What stays in all rounds. -/
def LastK (nm : ByteArray) (kind : Int) (out : Bool) (size depth refresh : Int) (w w1 wr : World) : Prop := Below w.heap.size w wr ∧ w1.heap.size < wr.heap.size ∧ wr.cell? ⟨w.heap.size, 0, none⟩ = some (.string nm) ∧ wr.cell? ⟨w.heap.size, 1, none⟩ = some (.int .u8 kind) ∧ wr.cell? ⟨w.heap.size, 2, none⟩ = some (.bool out) ∧ wr.cell? ⟨w.heap.size, 3, none⟩ = some (.int .i64 size) ∧ wr.cell? ⟨w.heap.size, 4, none⟩ = some (.int .i64 depth) ∧ wr.cell? ⟨w.heap.size, 5, none⟩ = some (.int .i64 refresh) ∧ wr.frozen? ⟨w1.heap.size, 0, none⟩ = false ∧ wr.frozen? ⟨w1.heap.size, 1, none⟩ = false ∧ wr.frozen? ⟨w1.heap.size, 2, none⟩ = false

def LastSt (size : Int) (b : Nat) (last at_ : Value) (now : Int) (wr : World) : Prop :=
  (∃ x c, last = .string ⟨#[]⟩ ∧ at_ = .int .i64 0 ∧ wr.cell? ⟨b, 0, none⟩ = some (.slice x ([] : List UInt8).length c) ∧ wr.cell? ⟨b, 1, none⟩ = some (.int .i64 0) ∧ wr.cell? ⟨b, 2, none⟩ = some (.bool false)) ∨
  (∃ x c l t, last = .string ⟨(l : List UInt8).toArray⟩ ∧ at_ = .int .i64 t ∧ ¬ l = [] ∧ (l.length : Int) ≤ size ∧ 0 ≤ t ∧ t ≤ now ∧ Bts wr x l ∧ wr.cell? ⟨b, 0, none⟩ = some (.slice x l.length c) ∧ wr.cell? ⟨b, 1, none⟩ = some (.int .i64 t) ∧ wr.cell? ⟨b, 2, none⟩ = some (.bool true))

def LastRel (nm : ByteArray) (kind : Int) (out : Bool) (size depth refresh : Int) (w w1 : World) (m : Nat) (last at_ nw i : Value) (wr : World) : Prop :=
  ∃ (j : Nat) (now : Int), j ≤ m ∧ i = .int .i64 (j : Int) ∧ nw = .int .i64 now ∧ 0 ≤ now ∧ now ≤ 65535 * (j : Int) ∧ LastK nm kind out size depth refresh w w1 wr ∧ LastSt size w1.heap.size last at_ now wr


set_option maxRecDepth 100000 in
set_option maxHeartbeats 1000000 in
theorem last_no (nm : ByteArray) (kind : Int) (out : Bool) (size depth refresh : Int) (xa : Option Addr) (n ca : Nat) (w : World) (v : Smp.validB kind size depth refresh 0 0 false = false) : Calls Try.prog 4 #[.agg #[.string nm, .int .u8 kind, .bool out, .int .i64 size, .int .i64 depth, .int .i64 refresh], .slice xa n ca] w fun e w' => e = .returned (.bool true) ∧ Below w.heap.size w w' := by
  have hB := Below.refl w.heap.size w
  go_enter Try.func4, Try.ntmps4
  go_wp2_with fail
  refine (Valid_any _ _ _ _ _ _ _ [] _ _ _ _).mono ?_
  rintro e w1 ⟨rfl, hb⟩
  simp only [List.length_nil]
  rw [v]
  have hq := thru (al (Below.refl _ w) _) hb
  have g1_0 := later (a := ⟨w.heap.size, 0, none⟩) (v := .string nm) hb (by go_simp)
  have g1_1 := later (a := ⟨w.heap.size, 1, none⟩) (v := .int .u8 kind) hb (by go_simp)
  have g1_2 := later (a := ⟨w.heap.size, 2, none⟩) (v := .bool out) hb (by go_simp)
  have g1_3 := later (a := ⟨w.heap.size, 3, none⟩) (v := .int .i64 size) hb (by go_simp)
  have g1_4 := later (a := ⟨w.heap.size, 4, none⟩) (v := .int .i64 depth) hb (by go_simp)
  have g1_5 := later (a := ⟨w.heap.size, 5, none⟩) (v := .int .i64 refresh) hb (by go_simp)
  have z1_0 : w.heap.size < w1.heap.size := (by have := hb.size; simp at this; omega)
  replace hB := thru hB hq
  clear hb hq 
  go_wp2_with fail
  refine (awake_any _).mono ?_
  rintro e w2 ⟨rfl, hb⟩
  have hq := thru (Below.refl _ w1) hb
  have g2_0 := later hq g1_0
  have g2_1 := later hq g1_1
  have g2_2 := later hq g1_2
  have g2_3 := later hq g1_3
  have g2_4 := later hq g1_4
  have g2_5 := later hq g1_5
  have z2_0 : w.heap.size < w2.heap.size := Nat.lt_of_lt_of_le z1_0 hq.size
  replace hB := thru hB hq
  clear hb hq g1_0 g1_1 g1_2 g1_3 g1_4 g1_5 z1_0
  go_wp2_with fail
  go_ret
  exact ⟨rfl, hB⟩


theorem cell_far {w : World} {p a : Addr} {v u : Value} (h : w.cell? a = some u) (hp : a.block ≠ p.block) : (w.setCell p v).cell? a = some u :=
  (World.cell?_of_block (w := w) (Deep.blk_setCell_other _ _ _ _ hp)).trans h
theorem lst_ready0 {kind size depth refresh t : Int} (v : Smp.validB kind size depth refresh 0 0 false = true) (h0 : 0 ≤ t) (h1 : t ≤ 1073741824) : Smp.readyB kind size depth refresh ([] : List UInt8).length 0 false t = true := by
  unfold Smp.readyB
  rw [show Smp.validB kind size depth refresh ([] : List UInt8).length 0 false = true from v]
  simp [h0, h1]
theorem lst_valid1 {kind size depth refresh t : Int} {l : List UInt8} (v : Smp.validB kind size depth refresh 0 0 false = true) (hl0 : ¬ l = []) (hl1 : (l.length : Int) ≤ size) (h0 : 0 ≤ t) (h1 : t ≤ 1073741824) : Smp.validB kind size depth refresh l.length t true = true := by
  obtain ⟨rfl, rfl, e3, e4, e5, e6, -⟩ := Smp.valid_at v
  have hl : 1 ≤ l.length := by cases l with | nil => exact absurd rfl hl0 | cons a l => simp
  rw [Smp.valid_full e3 e4 e5 e6]
  simp [h0, h1, hl, hl1]
theorem lst_ready1 {kind size depth refresh t n : Int} {l : List UInt8} (v : Smp.validB kind size depth refresh 0 0 false = true) (hl0 : ¬ l = []) (hl1 : (l.length : Int) ≤ size) (h0 : 0 ≤ t) (h1 : t ≤ n) (h2 : n ≤ 1073741824) : Smp.readyB kind size depth refresh l.length t true n = true := by
  unfold Smp.readyB
  rw [lst_valid1 v hl0 hl1 h0 (by omega)]
  simp [h1, h2]
theorem lst_read0 {kind size depth refresh t : Int} (v : Smp.validB kind size depth refresh 0 0 false = true) (h0 : 0 ≤ t) (h1 : t ≤ 1073741824) : readS kind size depth refresh [] 0 false t = ([], false, 6) := by
  unfold readS; rw [if_neg (by rw [lst_ready0 v h0 h1]; decide), if_pos rfl]
theorem lst_read1 {kind size depth refresh t n : Int} {l : List UInt8} (v : Smp.validB kind size depth refresh 0 0 false = true) (hl0 : ¬ l = []) (hl1 : (l.length : Int) ≤ size) (h0 : 0 ≤ t) (h1 : t ≤ n) (h2 : n ≤ 1073741824) : readS kind size depth refresh l t true n = (l, decide (n - t ≤ refresh), 0) := by
  unfold readS; rw [if_neg (by rw [lst_ready1 v hl0 hl1 h0 h1 h2]; decide), if_neg (by decide)]
theorem lst_code {kind size depth refresh t n : Int} {l d : List UInt8} {h : Bool} (hr : Smp.readyB kind size depth refresh l.length t h n = true) (hd : ¬ d = []) (hs : (d.length : Int) ≤ size) : writeCode kind size depth refresh l t h n d = 0 := by
  unfold writeCode; rw [if_neg (by rw [hr]; simp [hd]), if_neg (by omega)]
theorem lst_long {kind size depth refresh t n : Int} {l d : List UInt8} {h : Bool} (hr : Smp.readyB kind size depth refresh l.length t h n = true) (hd : ¬ d = []) (hs : size < (d.length : Int)) : writeCode kind size depth refresh l t h n d = 3 := by
  unfold writeCode; rw [if_neg (by rw [hr]; simp [hd]), if_pos hs]
theorem bts_set {B : Nat} {w W : World} {x : Option Addr} {cap : Nat} {l : List UInt8} (h : OwnsB B w x cap l) (hb : Below w.heap.size w W) {p q r : Addr} (hp : p.block < B) (hq : q.block < B) (hr : r.block < B) {u v z : Value} : Bts (((W.setCell p u).setCell q v).setCell r z) x l := by
  rcases h.2 with ⟨hv, h0⟩ | ⟨g, cap', cur, hv, hlo, hg, hnc, hm, hcs, htake⟩
  · exact .inl (List.eq_nil_of_length_eq_zero h0)
  · cases hv
    rcases (h.bts).later hb with h1 | ⟨b, o, hx, hc⟩
    · exact .inl h1
    · cases hx
      refine .inr ⟨g, 0, rfl, fun i hi => ?_⟩
      exact cell_far (cell_far (cell_far (hc i hi) (by show g ≠ _; omega)) (by show g ≠ _; omega)) (by show g ≠ _; omega)
theorem str_ne {l : List UInt8} (h : ¬ l = []) : ¬ (⟨l.toArray⟩ : ByteArray) = ⟨#[]⟩ := by
  intro e; simp at e; exact h e


set_option maxRecDepth 100000 in
set_option maxHeartbeats 4000000 in
theorem last_n (nm : ByteArray) (kind : Int) (out : Bool) (size depth refresh : Int) (xa : Option Addr) (n ca : Nat) (w : World) (v : Smp.validB kind size depth refresh 0 0 false = true) (hn : n ≤ ca) (h30 : n ≤ 30) (ha : Acts w xa n) : Calls Try.prog 4 #[.agg #[.string nm, .int .u8 kind, .bool out, .int .i64 size, .int .i64 depth, .int .i64 refresh], .slice xa n ca] w fun e w' => e = .returned (.bool true) ∧ Below w.heap.size w w' := by
  have hB := Below.refl w.heap.size w
  go_enter Try.func4, Try.ntmps4
  go_wp2_with fail
  refine (Valid_any _ _ _ _ _ _ _ [] _ _ _ _).mono ?_
  rintro e w1 ⟨rfl, hb⟩
  simp only [List.length_nil]
  rw [v]
  have hq := thru (al (Below.refl _ w) _) hb
  have g1_0 := later (a := ⟨w.heap.size, 0, none⟩) (v := .string nm) hb (by go_simp)
  have g1_1 := later (a := ⟨w.heap.size, 1, none⟩) (v := .int .u8 kind) hb (by go_simp)
  have g1_2 := later (a := ⟨w.heap.size, 2, none⟩) (v := .bool out) hb (by go_simp)
  have g1_3 := later (a := ⟨w.heap.size, 3, none⟩) (v := .int .i64 size) hb (by go_simp)
  have g1_4 := later (a := ⟨w.heap.size, 4, none⟩) (v := .int .i64 depth) hb (by go_simp)
  have g1_5 := later (a := ⟨w.heap.size, 5, none⟩) (v := .int .i64 refresh) hb (by go_simp)
  have z1_0 : w.heap.size < w1.heap.size := (by have := hb.size; simp at this; omega)
  replace hB := thru hB hq
  clear hb hq 
  go_wp2_with fail
  have hK0 : LastK nm kind out size depth refresh w w1 (w1.alloc (.cells #[.slice none 0 0, .int .i64 0, .bool false] 26)) := ⟨al hB _, by simp, later (al (Below.refl _ w1) _) g1_0, later (al (Below.refl _ w1) _) g1_1, later (al (Below.refl _ w1) _) g1_2, later (al (Below.refl _ w1) _) g1_3, later (al (Below.refl _ w1) _) g1_4, later (al (Below.refl _ w1) _) g1_5, by go_simp, by go_simp, by go_simp⟩
  have hS0 : LastSt size w1.heap.size (.string ⟨#[]⟩) (.int .i64 0) 0 (w1.alloc (.cells #[.slice none 0 0, .int .i64 0, .bool false] 26)) := .inl ⟨none, 0, rfl, rfl, by go_simp, by go_simp, by go_simp⟩
  go_loopw [6, 7, 8, 28] (fun u6 u7 u8 u28 wr => LastRel nm kind out size depth refresh w w1 n u6 u7 u8 u28 wr) (fun _ _ _ u28 _ => n - (intOf u28).toNat)
  case atStart => exact ⟨0, 0, Nat.zero_le _, rfl, rfl, by omega, by omega, hK0, hS0⟩
  case round =>
    clear hK0 hS0 hB g1_0 g1_1 g1_2 g1_3 g1_4 g1_5
    obtain ⟨j, now, hj, rfl, rfl, hn0, hn1, hK, hS⟩ := hrel
    obtain ⟨hB, zb, k0, k1, k2, k3, k4, k5, f0, f1, f2⟩ := hK
    have zp : w.heap.size < wr.heap.size := by omega
    have zb0 := zb
    have hr0 := (Smp.valid_at v).2.2.2.2.1
    have hr1 := (Smp.valid_at v).2.2.2.1
    by_cases hlt : j < n
    · obtain ⟨ab, ao, rfl, hact⟩ := ha.resolve_left (by omega)
      obtain ⟨wait, xd, d, cd, hw0, hw1, hc0, hc1, yD⟩ := hact j hlt
      clear ha hact
      have ha0 := later hB hc0
      have ha1 := later hB hc1
      clear hc0 hc1
      have HN := Lib.hid hn1
      have hn2 : now + wait ≤ 2000000 := by omega
      have hn3 : now ≤ 2000000 := by omega
      clear hn1
      rcases hS with ⟨xS, cS, rfl, rfl, s0, s1, s2⟩ | ⟨xS, cS, l, t, rfl, rfl, hl0, hl1, ht0, ht1, yS, s0, s1, s2⟩
      · by_cases hd : 200 < (d.length : Int)
        · have yS : Bts wr xS [] := Bts.nil _ _
          go_wp2_with fail
          refine (awake_any _).mono ?_
          rintro e w2 ⟨rfl, hb⟩
          have hq := thru (al (Below.refl _ wr) _) hb
          have g1_0 := later hq k0
          have g1_1 := later hq k1
          have g1_2 := later hq k2
          have g1_3 := later hq k3
          have g1_4 := later hq k4
          have g1_5 := later hq k5
          have g1_6 := later hq s0
          have g1_7 := later hq s1
          have g1_8 := later hq s2
          have g1_9 := later (a := ⟨wr.heap.size, 0, none⟩) (v := .int .u16 wait) hb (by go_simp)
          have g1_10 := later (a := ⟨wr.heap.size, 1, none⟩) (v := .slice xd d.length cd) hb (by go_simp)
          have e1_0 := (hq.frozen (World.block_lt_of_cell? _ _ s0)).trans f0
          have e1_1 := (hq.frozen (World.block_lt_of_cell? _ _ s1)).trans f1
          have e1_2 := (hq.frozen (World.block_lt_of_cell? _ _ s2)).trans f2
          have z1_0 : w.heap.size < w2.heap.size := Nat.lt_of_lt_of_le zp hq.size
          have z1_1 : w1.heap.size < w2.heap.size := Nat.lt_of_lt_of_le zb hq.size
          have z1_2 : wr.heap.size < w2.heap.size := (by have := hb.size; simp at this; omega)
          replace hB := thru hB hq
          clear hb hq k0 k1 k2 k3 k4 k5 s0 s1 s2 zp zb f0 f1 f2
          go_wp2_with fail
          go_ret
          exact ⟨rfl, hB⟩
        · by_cases hd0 : d = []
          · subst hd0
            have qr := lst_read0 (t := now + wait) v (by omega) (by omega)
            have yS : Bts wr xS [] := Bts.nil _ _
            go_wp2_with fail
            refine (read_one nm kind out size depth refresh xS ([] : List UInt8) cS 0 false _ _ (Bts.nil _ _) (by first | omega | decide) qr).mono ?_
            rintro e w4 ⟨x4, c4, rfl, ho, hb⟩
            have yA := ho.bts
            clear ho
            have hq := thru (al (Below.refl _ wr) _) hb
            have g1_0 := later hq k0
            have g1_1 := later hq k1
            have g1_2 := later hq k2
            have g1_3 := later hq k3
            have g1_4 := later hq k4
            have g1_5 := later hq k5
            have g1_6 := later hq s0
            have g1_7 := later hq s1
            have g1_8 := later hq s2
            have g1_9 := later (a := ⟨wr.heap.size, 0, none⟩) (v := .int .u16 wait) hb (by go_simp)
            have g1_10 := later (a := ⟨wr.heap.size, 1, none⟩) (v := .slice xd ([] : List UInt8).length cd) hb (by go_simp)
            have e1_0 := (hq.frozen (World.block_lt_of_cell? _ _ s0)).trans f0
            have e1_1 := (hq.frozen (World.block_lt_of_cell? _ _ s1)).trans f1
            have e1_2 := (hq.frozen (World.block_lt_of_cell? _ _ s2)).trans f2
            have z1_0 : w.heap.size < w4.heap.size := Nat.lt_of_lt_of_le zp hq.size
            have z1_1 : w1.heap.size < w4.heap.size := Nat.lt_of_lt_of_le zb hq.size
            have z1_2 : wr.heap.size < w4.heap.size := (by have := hb.size; simp at this; omega)
            replace hB := thru hB hq
            clear hb hq k0 k1 k2 k3 k4 k5 s0 s1 s2 zp zb f0 f1 f2
            go_wp2_with fail
            refine ⟨⟨j + 1, now + wait, by omega, by simp, rfl, by omega, by have := HN.out; omega, ⟨hB, z1_1, g1_0, g1_1, g1_2, g1_3, g1_4, g1_5, e1_0, e1_1, e1_2⟩, ?_⟩, by simp [intOf]; omega⟩
            exact .inl ⟨_, _, rfl, rfl, g1_6, g1_7, g1_8⟩
          · by_cases hd1 : (d.length : Int) ≤ size
            · have qc := lst_code (l := []) (t := 0) (h := false) (n := now + wait) (lst_ready0 v (by omega) (by omega)) hd0 hd1
              have qs : writeS kind size depth refresh [] 0 false (now + wait) d = (d, now + wait, true) := by unfold writeS; rw [if_pos qc]
              have hdl : (0 : Int) < (d.length : Int) := by cases d with | nil => exact absurd rfl hd0 | cons a l => (simp <;> omega)
              have hne := str_ne hd0
              have qr := read_now (d := d) (now := now + wait) v (by omega) (by omega) hd0 hd1
              have yS : Bts wr xS [] := Bts.nil _ _
              go_wp2_with fail
              refine (write_one nm kind out size depth refresh xS ([] : List UInt8) cS 0 false _ xd d cd _ (Bts.nil _ _) (by first | omega | decide) (yD.later (thru hB (al (Below.refl _ wr) _))) (by omega) qs qc).mono ?_
              rintro e w2 ⟨x2, c2, rfl, ho, hb⟩
              have HO := Lib.hid (owns_weaken (B' := wr.heap.size) ho (by simp))
              clear ho
              have hq := thru (al (Below.refl _ wr) _) hb
              have g1_0 := later hq k0
              have g1_1 := later hq k1
              have g1_2 := later hq k2
              have g1_3 := later hq k3
              have g1_4 := later hq k4
              have g1_5 := later hq k5
              have g1_6 := later hq s0
              have g1_7 := later hq s1
              have g1_8 := later hq s2
              have g1_9 := later (a := ⟨wr.heap.size, 0, none⟩) (v := .int .u16 wait) hb (by go_simp)
              have g1_10 := later (a := ⟨wr.heap.size, 1, none⟩) (v := .slice xd d.length cd) hb (by go_simp)
              have e1_0 := (hq.frozen (World.block_lt_of_cell? _ _ s0)).trans f0
              have e1_1 := (hq.frozen (World.block_lt_of_cell? _ _ s1)).trans f1
              have e1_2 := (hq.frozen (World.block_lt_of_cell? _ _ s2)).trans f2
              have z1_0 : w.heap.size < w2.heap.size := Nat.lt_of_lt_of_le zp hq.size
              have z1_1 : w1.heap.size < w2.heap.size := Nat.lt_of_lt_of_le zb hq.size
              have z1_2 : wr.heap.size < w2.heap.size := (by have := hb.size; simp at this; omega)
              replace hB := thru hB hq
              clear hb hq k0 k1 k2 k3 k4 k5 s0 s1 s2 zp zb f0 f1 f2
              have cv2 := fun (o : Obj) => run_conv (P := Try.prog) (src := 24) (dst := 9) Try.underlying24 Try.underlying5 Try.underlying9 (yD.later (al hB o)) cd
              go_wp2_with fail
              refine (read_one nm kind out size depth refresh x2 d c2 (now + wait) true _ _ ((bts_set HO.out (Below.refl _ w2) (p := ⟨w1.heap.size, 0, none⟩) (q := ⟨w1.heap.size, 1, none⟩) (r := ⟨w1.heap.size, 2, none⟩) zb0 zb0 zb0).later (al (Below.refl _ _) _)) (by first | omega | decide) qr).mono ?_
              rintro e w4 ⟨x4, c4, rfl, ho, hb⟩
              have yA := ho.bts
              clear ho
              have yN : Bts w4 x2 d := Bts.later ((bts_set HO.out (Below.refl _ w2) (p := ⟨w1.heap.size, 0, none⟩) (q := ⟨w1.heap.size, 1, none⟩) (r := ⟨w1.heap.size, 2, none⟩) zb0 zb0 zb0).later (al (Below.refl _ _) _)) hb
              have g2_0 := later (a := ⟨w.heap.size, 0, none⟩) (v := .string nm) hb (by go_simp)
              have g2_1 := later (a := ⟨w.heap.size, 1, none⟩) (v := .int .u8 kind) hb (by go_simp)
              have g2_2 := later (a := ⟨w.heap.size, 2, none⟩) (v := .bool out) hb (by go_simp)
              have g2_3 := later (a := ⟨w.heap.size, 3, none⟩) (v := .int .i64 size) hb (by go_simp)
              have g2_4 := later (a := ⟨w.heap.size, 4, none⟩) (v := .int .i64 depth) hb (by go_simp)
              have g2_5 := later (a := ⟨w.heap.size, 5, none⟩) (v := .int .i64 refresh) hb (by go_simp)
              have g2_6 := later (a := ⟨w1.heap.size, 0, none⟩) (v := .slice x2 d.length c2) hb (by go_simp)
              have g2_7 := later (a := ⟨w1.heap.size, 1, none⟩) (v := .int .i64 (now + wait)) hb (by go_simp)
              have g2_8 := later (a := ⟨w1.heap.size, 2, none⟩) (v := .bool true) hb (by go_simp)
              have g2_9 := later (a := ⟨wr.heap.size, 0, none⟩) (v := .int .u16 wait) hb (by go_simp)
              have g2_10 := later (a := ⟨wr.heap.size, 1, none⟩) (v := .slice xd d.length cd) hb (by go_simp)
              have g2_11 := later (a := ⟨w2.heap.size, 0, none⟩) (v := .slice x2 d.length c2) hb (by go_simp)
              have g2_12 := later (a := ⟨w2.heap.size, 1, none⟩) (v := .int .i64 (now + wait)) hb (by go_simp)
              have g2_13 := later (a := ⟨w2.heap.size, 2, none⟩) (v := .bool true) hb (by go_simp)
              have e2_0 := (Below.frozen hb (p := ⟨w1.heap.size, 0, none⟩) (by simp <;> omega)).trans (show _ = false by go_simp)
              have e2_1 := (Below.frozen hb (p := ⟨w1.heap.size, 1, none⟩) (by simp <;> omega)).trans (show _ = false by go_simp)
              have e2_2 := (Below.frozen hb (p := ⟨w1.heap.size, 2, none⟩) (by simp <;> omega)).trans (show _ = false by go_simp)
              have z2_0 : w.heap.size < w4.heap.size := (by have := hb.size; simp at this; omega)
              have z2_1 : w1.heap.size < w4.heap.size := (by have := hb.size; simp at this; omega)
              have z2_2 : wr.heap.size < w4.heap.size := (by have := hb.size; simp at this; omega)
              have z2_3 : w2.heap.size < w4.heap.size := (by have := hb.size; simp at this; omega)
              replace hB := thru (al ((((hB).setCell (by show w.heap.size ≤ w1.heap.size; omega) _).setCell (by show w.heap.size ≤ w1.heap.size; omega) _).setCell (by show w.heap.size ≤ w1.heap.size; omega) _) _) hb
              clear hb g1_0 g1_1 g1_2 g1_3 g1_4 g1_5 g1_6 g1_7 g1_8 g1_9 g1_10 z1_0 z1_1 z1_2 e1_0 e1_1 e1_2
              clear HO cv2
              have cv1 := run_conv (P := Try.prog) (src := 24) (dst := 9) Try.underlying24 Try.underlying5 Try.underlying9 yA c4
              go_wp2_with fail
              refine ⟨⟨j + 1, now + wait, by omega, by simp, rfl, by omega, by have := HN.out; omega, ⟨hB, z2_1, g2_0, g2_1, g2_2, g2_3, g2_4, g2_5, e2_0, e2_1, e2_2⟩, ?_⟩, by simp [intOf]; omega⟩
              exact .inr ⟨_, _, d, now + wait, rfl, rfl, hd0, hd1, by omega, by omega, yN, g2_6, g2_7, g2_8⟩
            · have qc := lst_long (l := []) (t := 0) (h := false) (n := now + wait) (lst_ready0 v (by omega) (by omega)) hd0 (by omega)
              have qs : writeS kind size depth refresh [] 0 false (now + wait) d = ([], 0, false) := by unfold writeS; rw [if_neg (by rw [qc]; decide)]
              have hdl : (0 : Int) < (d.length : Int) := by cases d with | nil => exact absurd rfl hd0 | cons a l => (simp <;> omega)
              have qr := lst_read0 (t := now + wait) v (by omega) (by omega)
              have yS : Bts wr xS [] := Bts.nil _ _
              go_wp2_with fail
              refine (write_one nm kind out size depth refresh xS ([] : List UInt8) cS 0 false _ xd d cd _ (Bts.nil _ _) (by first | omega | decide) (yD.later (thru hB (al (Below.refl _ wr) _))) (by omega) qs qc).mono ?_
              rintro e w2 ⟨x2, c2, rfl, ho, hb⟩
              have HO := Lib.hid (owns_weaken (B' := wr.heap.size) ho (by simp))
              clear ho
              have hq := thru (al (Below.refl _ wr) _) hb
              have g1_0 := later hq k0
              have g1_1 := later hq k1
              have g1_2 := later hq k2
              have g1_3 := later hq k3
              have g1_4 := later hq k4
              have g1_5 := later hq k5
              have g1_6 := later hq s0
              have g1_7 := later hq s1
              have g1_8 := later hq s2
              have g1_9 := later (a := ⟨wr.heap.size, 0, none⟩) (v := .int .u16 wait) hb (by go_simp)
              have g1_10 := later (a := ⟨wr.heap.size, 1, none⟩) (v := .slice xd d.length cd) hb (by go_simp)
              have e1_0 := (hq.frozen (World.block_lt_of_cell? _ _ s0)).trans f0
              have e1_1 := (hq.frozen (World.block_lt_of_cell? _ _ s1)).trans f1
              have e1_2 := (hq.frozen (World.block_lt_of_cell? _ _ s2)).trans f2
              have z1_0 : w.heap.size < w2.heap.size := Nat.lt_of_lt_of_le zp hq.size
              have z1_1 : w1.heap.size < w2.heap.size := Nat.lt_of_lt_of_le zb hq.size
              have z1_2 : wr.heap.size < w2.heap.size := (by have := hb.size; simp at this; omega)
              replace hB := thru hB hq
              clear hb hq k0 k1 k2 k3 k4 k5 s0 s1 s2 zp zb f0 f1 f2
              go_wp2_with fail
              have yX := (OwnsB.bts HO.out)
              refine (same_any _ _ _ _ _ _ _ _ _ _ _ (Bts.nil _ _) (yX.later (al (Below.refl _ w2) _))).mono ?_
              rintro e w3 ⟨rfl, hb⟩
              rw [show sameB ([] : List UInt8) 0 false ([] : List UInt8) 0 false = true by simp [sameB]]
              have HSM := Lib.hid (thru (al (Below.refl _ w2) _) hb)
              have hq := thru (al (Below.refl _ w2) _) hb
              have g2_0 := later hq g1_0
              have g2_1 := later hq g1_1
              have g2_2 := later hq g1_2
              have g2_3 := later hq g1_3
              have g2_4 := later hq g1_4
              have g2_5 := later hq g1_5
              have g2_6 := later hq g1_6
              have g2_7 := later hq g1_7
              have g2_8 := later hq g1_8
              have g2_9 := later hq g1_9
              have g2_10 := later hq g1_10
              have g2_11 := later (a := ⟨w2.heap.size, 0, none⟩) (v := .slice x2 ([] : List UInt8).length c2) hb (by go_simp)
              have g2_12 := later (a := ⟨w2.heap.size, 1, none⟩) (v := .int .i64 0) hb (by go_simp)
              have g2_13 := later (a := ⟨w2.heap.size, 2, none⟩) (v := .bool false) hb (by go_simp)
              have e2_0 := (hq.frozen (World.block_lt_of_cell? _ _ g1_6)).trans e1_0
              have e2_1 := (hq.frozen (World.block_lt_of_cell? _ _ g1_7)).trans e1_1
              have e2_2 := (hq.frozen (World.block_lt_of_cell? _ _ g1_8)).trans e1_2
              have z2_0 : w.heap.size < w3.heap.size := Nat.lt_of_lt_of_le z1_0 hq.size
              have z2_1 : w1.heap.size < w3.heap.size := Nat.lt_of_lt_of_le z1_1 hq.size
              have z2_2 : wr.heap.size < w3.heap.size := Nat.lt_of_lt_of_le z1_2 hq.size
              have z2_3 : w2.heap.size < w3.heap.size := (by have := hb.size; simp at this; omega)
              replace hB := thru hB hq
              clear hb hq g1_0 g1_1 g1_2 g1_3 g1_4 g1_5 g1_6 g1_7 g1_8 g1_9 g1_10 z1_0 z1_1 z1_2 e1_0 e1_1 e1_2
              clear yX
              go_wp2_with fail
              refine (read_one nm kind out size depth refresh x2 ([] : List UInt8) c2 0 false _ _ (bts_set HO.out HSM.out (p := ⟨w1.heap.size, 0, none⟩) (q := ⟨w1.heap.size, 1, none⟩) (r := ⟨w1.heap.size, 2, none⟩) zb0 zb0 zb0) (by first | omega | decide) qr).mono ?_
              rintro e w4 ⟨x4, c4, rfl, ho, hb⟩
              have yA := ho.bts
              clear ho
              have yN : Bts w4 x2 ([] : List UInt8) := Bts.later (bts_set HO.out HSM.out (p := ⟨w1.heap.size, 0, none⟩) (q := ⟨w1.heap.size, 1, none⟩) (r := ⟨w1.heap.size, 2, none⟩) zb0 zb0 zb0) hb
              have g3_0 := later (a := ⟨w.heap.size, 0, none⟩) (v := .string nm) hb (by go_simp)
              have g3_1 := later (a := ⟨w.heap.size, 1, none⟩) (v := .int .u8 kind) hb (by go_simp)
              have g3_2 := later (a := ⟨w.heap.size, 2, none⟩) (v := .bool out) hb (by go_simp)
              have g3_3 := later (a := ⟨w.heap.size, 3, none⟩) (v := .int .i64 size) hb (by go_simp)
              have g3_4 := later (a := ⟨w.heap.size, 4, none⟩) (v := .int .i64 depth) hb (by go_simp)
              have g3_5 := later (a := ⟨w.heap.size, 5, none⟩) (v := .int .i64 refresh) hb (by go_simp)
              have g3_6 := later (a := ⟨w1.heap.size, 0, none⟩) (v := .slice x2 ([] : List UInt8).length c2) hb (by go_simp)
              have g3_7 := later (a := ⟨w1.heap.size, 1, none⟩) (v := .int .i64 0) hb (by go_simp)
              have g3_8 := later (a := ⟨w1.heap.size, 2, none⟩) (v := .bool false) hb (by go_simp)
              have g3_9 := later (a := ⟨wr.heap.size, 0, none⟩) (v := .int .u16 wait) hb (by go_simp)
              have g3_10 := later (a := ⟨wr.heap.size, 1, none⟩) (v := .slice xd d.length cd) hb (by go_simp)
              have e3_0 := (Below.frozen hb (p := ⟨w1.heap.size, 0, none⟩) (by simp <;> omega)).trans (show _ = false by go_simp)
              have e3_1 := (Below.frozen hb (p := ⟨w1.heap.size, 1, none⟩) (by simp <;> omega)).trans (show _ = false by go_simp)
              have e3_2 := (Below.frozen hb (p := ⟨w1.heap.size, 2, none⟩) (by simp <;> omega)).trans (show _ = false by go_simp)
              have z3_0 : w.heap.size < w4.heap.size := (by have := hb.size; simp at this; omega)
              have z3_1 : w1.heap.size < w4.heap.size := (by have := hb.size; simp at this; omega)
              have z3_2 : wr.heap.size < w4.heap.size := (by have := hb.size; simp at this; omega)
              have z3_3 : w2.heap.size < w4.heap.size := (by have := hb.size; simp at this; omega)
              replace hB := thru ((((hB).setCell (by show w.heap.size ≤ w1.heap.size; omega) _).setCell (by show w.heap.size ≤ w1.heap.size; omega) _).setCell (by show w.heap.size ≤ w1.heap.size; omega) _) hb
              clear hb g2_0 g2_1 g2_2 g2_3 g2_4 g2_5 g2_6 g2_7 g2_8 g2_9 g2_10 z2_0 z2_1 z2_2 z2_3 e2_0 e2_1 e2_2
              clear HO HSM
              go_wp2_with fail
              refine ⟨⟨j + 1, now + wait, by omega, by simp, rfl, by omega, by have := HN.out; omega, ⟨hB, z3_1, g3_0, g3_1, g3_2, g3_3, g3_4, g3_5, e3_0, e3_1, e3_2⟩, ?_⟩, by simp [intOf]; omega⟩
              exact .inl ⟨_, _, rfl, rfl, g3_6, g3_7, g3_8⟩
      · by_cases hd : 200 < (d.length : Int)
        · go_wp2_with fail
          refine (awake_any _).mono ?_
          rintro e w2 ⟨rfl, hb⟩
          have hq := thru (al (Below.refl _ wr) _) hb
          have g1_0 := later hq k0
          have g1_1 := later hq k1
          have g1_2 := later hq k2
          have g1_3 := later hq k3
          have g1_4 := later hq k4
          have g1_5 := later hq k5
          have g1_6 := later hq s0
          have g1_7 := later hq s1
          have g1_8 := later hq s2
          have g1_9 := later (a := ⟨wr.heap.size, 0, none⟩) (v := .int .u16 wait) hb (by go_simp)
          have g1_10 := later (a := ⟨wr.heap.size, 1, none⟩) (v := .slice xd d.length cd) hb (by go_simp)
          have e1_0 := (hq.frozen (World.block_lt_of_cell? _ _ s0)).trans f0
          have e1_1 := (hq.frozen (World.block_lt_of_cell? _ _ s1)).trans f1
          have e1_2 := (hq.frozen (World.block_lt_of_cell? _ _ s2)).trans f2
          have z1_0 : w.heap.size < w2.heap.size := Nat.lt_of_lt_of_le zp hq.size
          have z1_1 : w1.heap.size < w2.heap.size := Nat.lt_of_lt_of_le zb hq.size
          have z1_2 : wr.heap.size < w2.heap.size := (by have := hb.size; simp at this; omega)
          replace hB := thru hB hq
          replace yS := yS.later hq
          clear hb hq k0 k1 k2 k3 k4 k5 s0 s1 s2 zp zb f0 f1 f2
          go_wp2_with fail
          go_ret
          exact ⟨rfl, hB⟩
        · by_cases hd0 : d = []
          · subst hd0
            have qr := lst_read1 (n := now + wait) v hl0 hl1 ht0 (by omega) (by omega)
            have hne := str_ne hl0
            go_wp2_with fail
            refine (read_one nm kind out size depth refresh xS l cS t true _ _ (yS.later (al (Below.refl _ wr) _)) (by first | omega | decide) qr).mono ?_
            rintro e w4 ⟨x4, c4, rfl, ho, hb⟩
            have yA := ho.bts
            clear ho
            have hq := thru (al (Below.refl _ wr) _) hb
            have g1_0 := later hq k0
            have g1_1 := later hq k1
            have g1_2 := later hq k2
            have g1_3 := later hq k3
            have g1_4 := later hq k4
            have g1_5 := later hq k5
            have g1_6 := later hq s0
            have g1_7 := later hq s1
            have g1_8 := later hq s2
            have g1_9 := later (a := ⟨wr.heap.size, 0, none⟩) (v := .int .u16 wait) hb (by go_simp)
            have g1_10 := later (a := ⟨wr.heap.size, 1, none⟩) (v := .slice xd ([] : List UInt8).length cd) hb (by go_simp)
            have e1_0 := (hq.frozen (World.block_lt_of_cell? _ _ s0)).trans f0
            have e1_1 := (hq.frozen (World.block_lt_of_cell? _ _ s1)).trans f1
            have e1_2 := (hq.frozen (World.block_lt_of_cell? _ _ s2)).trans f2
            have z1_0 : w.heap.size < w4.heap.size := Nat.lt_of_lt_of_le zp hq.size
            have z1_1 : w1.heap.size < w4.heap.size := Nat.lt_of_lt_of_le zb hq.size
            have z1_2 : wr.heap.size < w4.heap.size := (by have := hb.size; simp at this; omega)
            replace hB := thru hB hq
            replace yS := yS.later hq
            clear hb hq k0 k1 k2 k3 k4 k5 s0 s1 s2 zp zb f0 f1 f2
            have cv1 := run_conv (P := Try.prog) (src := 24) (dst := 9) Try.underlying24 Try.underlying5 Try.underlying9 yA c4
            go_wp2_with fail
            refine ⟨⟨j + 1, now + wait, by omega, by simp, rfl, by omega, by have := HN.out; omega, ⟨hB, z1_1, g1_0, g1_1, g1_2, g1_3, g1_4, g1_5, e1_0, e1_1, e1_2⟩, ?_⟩, by simp [intOf]; omega⟩
            exact .inr ⟨_, _, l, t, rfl, rfl, hl0, hl1, ht0, by omega, yS, g1_6, g1_7, g1_8⟩
          · by_cases hd1 : (d.length : Int) ≤ size
            · have qc := lst_code (l := l) (t := t) (h := true) (n := now + wait) (lst_ready1 v hl0 hl1 ht0 (by omega) (by omega)) hd0 hd1
              have qs : writeS kind size depth refresh l t true (now + wait) d = (d, now + wait, true) := by unfold writeS; rw [if_pos qc]
              have hdl : (0 : Int) < (d.length : Int) := by cases d with | nil => exact absurd rfl hd0 | cons a l => (simp <;> omega)
              have hne := str_ne hd0
              have qr := read_now (d := d) (now := now + wait) v (by omega) (by omega) hd0 hd1
              go_wp2_with fail
              refine (write_one nm kind out size depth refresh xS l cS t true _ xd d cd _ (yS.later (al (Below.refl _ wr) _)) (by first | omega | decide) (yD.later (thru hB (al (Below.refl _ wr) _))) (by omega) qs qc).mono ?_
              rintro e w2 ⟨x2, c2, rfl, ho, hb⟩
              have HO := Lib.hid (owns_weaken (B' := wr.heap.size) ho (by simp))
              clear ho
              have hq := thru (al (Below.refl _ wr) _) hb
              have g1_0 := later hq k0
              have g1_1 := later hq k1
              have g1_2 := later hq k2
              have g1_3 := later hq k3
              have g1_4 := later hq k4
              have g1_5 := later hq k5
              have g1_6 := later hq s0
              have g1_7 := later hq s1
              have g1_8 := later hq s2
              have g1_9 := later (a := ⟨wr.heap.size, 0, none⟩) (v := .int .u16 wait) hb (by go_simp)
              have g1_10 := later (a := ⟨wr.heap.size, 1, none⟩) (v := .slice xd d.length cd) hb (by go_simp)
              have e1_0 := (hq.frozen (World.block_lt_of_cell? _ _ s0)).trans f0
              have e1_1 := (hq.frozen (World.block_lt_of_cell? _ _ s1)).trans f1
              have e1_2 := (hq.frozen (World.block_lt_of_cell? _ _ s2)).trans f2
              have z1_0 : w.heap.size < w2.heap.size := Nat.lt_of_lt_of_le zp hq.size
              have z1_1 : w1.heap.size < w2.heap.size := Nat.lt_of_lt_of_le zb hq.size
              have z1_2 : wr.heap.size < w2.heap.size := (by have := hb.size; simp at this; omega)
              replace hB := thru hB hq
              replace yS := yS.later hq
              clear hb hq k0 k1 k2 k3 k4 k5 s0 s1 s2 zp zb f0 f1 f2
              have cv2 := fun (o : Obj) => run_conv (P := Try.prog) (src := 24) (dst := 9) Try.underlying24 Try.underlying5 Try.underlying9 (yD.later (al hB o)) cd
              go_wp2_with fail
              refine (read_one nm kind out size depth refresh x2 d c2 (now + wait) true _ _ ((bts_set HO.out (Below.refl _ w2) (p := ⟨w1.heap.size, 0, none⟩) (q := ⟨w1.heap.size, 1, none⟩) (r := ⟨w1.heap.size, 2, none⟩) zb0 zb0 zb0).later (al (Below.refl _ _) _)) (by first | omega | decide) qr).mono ?_
              rintro e w4 ⟨x4, c4, rfl, ho, hb⟩
              have yA := ho.bts
              clear ho
              have yN : Bts w4 x2 d := Bts.later ((bts_set HO.out (Below.refl _ w2) (p := ⟨w1.heap.size, 0, none⟩) (q := ⟨w1.heap.size, 1, none⟩) (r := ⟨w1.heap.size, 2, none⟩) zb0 zb0 zb0).later (al (Below.refl _ _) _)) hb
              have g2_0 := later (a := ⟨w.heap.size, 0, none⟩) (v := .string nm) hb (by go_simp)
              have g2_1 := later (a := ⟨w.heap.size, 1, none⟩) (v := .int .u8 kind) hb (by go_simp)
              have g2_2 := later (a := ⟨w.heap.size, 2, none⟩) (v := .bool out) hb (by go_simp)
              have g2_3 := later (a := ⟨w.heap.size, 3, none⟩) (v := .int .i64 size) hb (by go_simp)
              have g2_4 := later (a := ⟨w.heap.size, 4, none⟩) (v := .int .i64 depth) hb (by go_simp)
              have g2_5 := later (a := ⟨w.heap.size, 5, none⟩) (v := .int .i64 refresh) hb (by go_simp)
              have g2_6 := later (a := ⟨w1.heap.size, 0, none⟩) (v := .slice x2 d.length c2) hb (by go_simp)
              have g2_7 := later (a := ⟨w1.heap.size, 1, none⟩) (v := .int .i64 (now + wait)) hb (by go_simp)
              have g2_8 := later (a := ⟨w1.heap.size, 2, none⟩) (v := .bool true) hb (by go_simp)
              have g2_9 := later (a := ⟨wr.heap.size, 0, none⟩) (v := .int .u16 wait) hb (by go_simp)
              have g2_10 := later (a := ⟨wr.heap.size, 1, none⟩) (v := .slice xd d.length cd) hb (by go_simp)
              have g2_11 := later (a := ⟨w2.heap.size, 0, none⟩) (v := .slice x2 d.length c2) hb (by go_simp)
              have g2_12 := later (a := ⟨w2.heap.size, 1, none⟩) (v := .int .i64 (now + wait)) hb (by go_simp)
              have g2_13 := later (a := ⟨w2.heap.size, 2, none⟩) (v := .bool true) hb (by go_simp)
              have e2_0 := (Below.frozen hb (p := ⟨w1.heap.size, 0, none⟩) (by simp <;> omega)).trans (show _ = false by go_simp)
              have e2_1 := (Below.frozen hb (p := ⟨w1.heap.size, 1, none⟩) (by simp <;> omega)).trans (show _ = false by go_simp)
              have e2_2 := (Below.frozen hb (p := ⟨w1.heap.size, 2, none⟩) (by simp <;> omega)).trans (show _ = false by go_simp)
              have z2_0 : w.heap.size < w4.heap.size := (by have := hb.size; simp at this; omega)
              have z2_1 : w1.heap.size < w4.heap.size := (by have := hb.size; simp at this; omega)
              have z2_2 : wr.heap.size < w4.heap.size := (by have := hb.size; simp at this; omega)
              have z2_3 : w2.heap.size < w4.heap.size := (by have := hb.size; simp at this; omega)
              replace hB := thru (al ((((hB).setCell (by show w.heap.size ≤ w1.heap.size; omega) _).setCell (by show w.heap.size ≤ w1.heap.size; omega) _).setCell (by show w.heap.size ≤ w1.heap.size; omega) _) _) hb
              clear hb g1_0 g1_1 g1_2 g1_3 g1_4 g1_5 g1_6 g1_7 g1_8 g1_9 g1_10 z1_0 z1_1 z1_2 e1_0 e1_1 e1_2
              clear HO cv2
              have cv1 := run_conv (P := Try.prog) (src := 24) (dst := 9) Try.underlying24 Try.underlying5 Try.underlying9 yA c4
              go_wp2_with fail
              refine ⟨⟨j + 1, now + wait, by omega, by simp, rfl, by omega, by have := HN.out; omega, ⟨hB, z2_1, g2_0, g2_1, g2_2, g2_3, g2_4, g2_5, e2_0, e2_1, e2_2⟩, ?_⟩, by simp [intOf]; omega⟩
              exact .inr ⟨_, _, d, now + wait, rfl, rfl, hd0, hd1, by omega, by omega, yN, g2_6, g2_7, g2_8⟩
            · have qc := lst_long (l := l) (t := t) (h := true) (n := now + wait) (lst_ready1 v hl0 hl1 ht0 (by omega) (by omega)) hd0 (by omega)
              have qs : writeS kind size depth refresh l t true (now + wait) d = (l, t, true) := by unfold writeS; rw [if_neg (by rw [qc]; decide)]
              have hdl : (0 : Int) < (d.length : Int) := by cases d with | nil => exact absurd rfl hd0 | cons a l => (simp <;> omega)
              have qr := lst_read1 (n := now + wait) v hl0 hl1 ht0 (by omega) (by omega)
              have hne := str_ne hl0
              go_wp2_with fail
              refine (write_one nm kind out size depth refresh xS l cS t true _ xd d cd _ (yS.later (al (Below.refl _ wr) _)) (by first | omega | decide) (yD.later (thru hB (al (Below.refl _ wr) _))) (by omega) qs qc).mono ?_
              rintro e w2 ⟨x2, c2, rfl, ho, hb⟩
              have HO := Lib.hid (owns_weaken (B' := wr.heap.size) ho (by simp))
              clear ho
              have hq := thru (al (Below.refl _ wr) _) hb
              have g1_0 := later hq k0
              have g1_1 := later hq k1
              have g1_2 := later hq k2
              have g1_3 := later hq k3
              have g1_4 := later hq k4
              have g1_5 := later hq k5
              have g1_6 := later hq s0
              have g1_7 := later hq s1
              have g1_8 := later hq s2
              have g1_9 := later (a := ⟨wr.heap.size, 0, none⟩) (v := .int .u16 wait) hb (by go_simp)
              have g1_10 := later (a := ⟨wr.heap.size, 1, none⟩) (v := .slice xd d.length cd) hb (by go_simp)
              have e1_0 := (hq.frozen (World.block_lt_of_cell? _ _ s0)).trans f0
              have e1_1 := (hq.frozen (World.block_lt_of_cell? _ _ s1)).trans f1
              have e1_2 := (hq.frozen (World.block_lt_of_cell? _ _ s2)).trans f2
              have z1_0 : w.heap.size < w2.heap.size := Nat.lt_of_lt_of_le zp hq.size
              have z1_1 : w1.heap.size < w2.heap.size := Nat.lt_of_lt_of_le zb hq.size
              have z1_2 : wr.heap.size < w2.heap.size := (by have := hb.size; simp at this; omega)
              replace hB := thru hB hq
              replace yS := yS.later hq
              clear hb hq k0 k1 k2 k3 k4 k5 s0 s1 s2 zp zb f0 f1 f2
              go_wp2_with fail
              have yX := (OwnsB.bts HO.out)
              refine (same_any _ _ _ _ _ _ _ _ _ _ _ (yS.later (al (Below.refl _ w2) _)) (yX.later (al (Below.refl _ w2) _))).mono ?_
              rintro e w3 ⟨rfl, hb⟩
              rw [show sameB l t true l t true = true by simp [sameB]]
              have HSM := Lib.hid (thru (al (Below.refl _ w2) _) hb)
              have hq := thru (al (Below.refl _ w2) _) hb
              have g2_0 := later hq g1_0
              have g2_1 := later hq g1_1
              have g2_2 := later hq g1_2
              have g2_3 := later hq g1_3
              have g2_4 := later hq g1_4
              have g2_5 := later hq g1_5
              have g2_6 := later hq g1_6
              have g2_7 := later hq g1_7
              have g2_8 := later hq g1_8
              have g2_9 := later hq g1_9
              have g2_10 := later hq g1_10
              have g2_11 := later (a := ⟨w2.heap.size, 0, none⟩) (v := .slice x2 l.length c2) hb (by go_simp)
              have g2_12 := later (a := ⟨w2.heap.size, 1, none⟩) (v := .int .i64 t) hb (by go_simp)
              have g2_13 := later (a := ⟨w2.heap.size, 2, none⟩) (v := .bool true) hb (by go_simp)
              have e2_0 := (hq.frozen (World.block_lt_of_cell? _ _ g1_6)).trans e1_0
              have e2_1 := (hq.frozen (World.block_lt_of_cell? _ _ g1_7)).trans e1_1
              have e2_2 := (hq.frozen (World.block_lt_of_cell? _ _ g1_8)).trans e1_2
              have z2_0 : w.heap.size < w3.heap.size := Nat.lt_of_lt_of_le z1_0 hq.size
              have z2_1 : w1.heap.size < w3.heap.size := Nat.lt_of_lt_of_le z1_1 hq.size
              have z2_2 : wr.heap.size < w3.heap.size := Nat.lt_of_lt_of_le z1_2 hq.size
              have z2_3 : w2.heap.size < w3.heap.size := (by have := hb.size; simp at this; omega)
              replace hB := thru hB hq
              replace yS := yS.later hq
              clear hb hq g1_0 g1_1 g1_2 g1_3 g1_4 g1_5 g1_6 g1_7 g1_8 g1_9 g1_10 z1_0 z1_1 z1_2 e1_0 e1_1 e1_2
              clear yX
              go_wp2_with fail
              refine (read_one nm kind out size depth refresh x2 l c2 t true _ _ (bts_set HO.out HSM.out (p := ⟨w1.heap.size, 0, none⟩) (q := ⟨w1.heap.size, 1, none⟩) (r := ⟨w1.heap.size, 2, none⟩) zb0 zb0 zb0) (by first | omega | decide) qr).mono ?_
              rintro e w4 ⟨x4, c4, rfl, ho, hb⟩
              have yA := ho.bts
              clear ho
              have yN : Bts w4 x2 l := Bts.later (bts_set HO.out HSM.out (p := ⟨w1.heap.size, 0, none⟩) (q := ⟨w1.heap.size, 1, none⟩) (r := ⟨w1.heap.size, 2, none⟩) zb0 zb0 zb0) hb
              have g3_0 := later (a := ⟨w.heap.size, 0, none⟩) (v := .string nm) hb (by go_simp)
              have g3_1 := later (a := ⟨w.heap.size, 1, none⟩) (v := .int .u8 kind) hb (by go_simp)
              have g3_2 := later (a := ⟨w.heap.size, 2, none⟩) (v := .bool out) hb (by go_simp)
              have g3_3 := later (a := ⟨w.heap.size, 3, none⟩) (v := .int .i64 size) hb (by go_simp)
              have g3_4 := later (a := ⟨w.heap.size, 4, none⟩) (v := .int .i64 depth) hb (by go_simp)
              have g3_5 := later (a := ⟨w.heap.size, 5, none⟩) (v := .int .i64 refresh) hb (by go_simp)
              have g3_6 := later (a := ⟨w1.heap.size, 0, none⟩) (v := .slice x2 l.length c2) hb (by go_simp)
              have g3_7 := later (a := ⟨w1.heap.size, 1, none⟩) (v := .int .i64 t) hb (by go_simp)
              have g3_8 := later (a := ⟨w1.heap.size, 2, none⟩) (v := .bool true) hb (by go_simp)
              have g3_9 := later (a := ⟨wr.heap.size, 0, none⟩) (v := .int .u16 wait) hb (by go_simp)
              have g3_10 := later (a := ⟨wr.heap.size, 1, none⟩) (v := .slice xd d.length cd) hb (by go_simp)
              have e3_0 := (Below.frozen hb (p := ⟨w1.heap.size, 0, none⟩) (by simp <;> omega)).trans (show _ = false by go_simp)
              have e3_1 := (Below.frozen hb (p := ⟨w1.heap.size, 1, none⟩) (by simp <;> omega)).trans (show _ = false by go_simp)
              have e3_2 := (Below.frozen hb (p := ⟨w1.heap.size, 2, none⟩) (by simp <;> omega)).trans (show _ = false by go_simp)
              have z3_0 : w.heap.size < w4.heap.size := (by have := hb.size; simp at this; omega)
              have z3_1 : w1.heap.size < w4.heap.size := (by have := hb.size; simp at this; omega)
              have z3_2 : wr.heap.size < w4.heap.size := (by have := hb.size; simp at this; omega)
              have z3_3 : w2.heap.size < w4.heap.size := (by have := hb.size; simp at this; omega)
              replace hB := thru ((((hB).setCell (by show w.heap.size ≤ w1.heap.size; omega) _).setCell (by show w.heap.size ≤ w1.heap.size; omega) _).setCell (by show w.heap.size ≤ w1.heap.size; omega) _) hb
              clear hb g2_0 g2_1 g2_2 g2_3 g2_4 g2_5 g2_6 g2_7 g2_8 g2_9 g2_10 z2_0 z2_1 z2_2 z2_3 e2_0 e2_1 e2_2
              clear HO HSM
              have cv1 := run_conv (P := Try.prog) (src := 24) (dst := 9) Try.underlying24 Try.underlying5 Try.underlying9 yA c4
              go_wp2_with fail
              refine ⟨⟨j + 1, now + wait, by omega, by simp, rfl, by omega, by have := HN.out; omega, ⟨hB, z3_1, g3_0, g3_1, g3_2, g3_3, g3_4, g3_5, e3_0, e3_1, e3_2⟩, ?_⟩, by simp [intOf]; omega⟩
              exact .inr ⟨_, _, l, t, rfl, rfl, hl0, hl1, ht0, by omega, yN, g3_6, g3_7, g3_8⟩
    · obtain rfl : j = n := by omega
      clear hlt ha
      have hnb : now ≤ 2000000 := by omega
      rcases hS with ⟨xS, cS, rfl, rfl, s0, s1, s2⟩ | ⟨xS, cS, l, t, rfl, rfl, hl0, hl1, ht0, ht1, yS, s0, s1, s2⟩
      · have hv : Smp.validB kind size depth refresh ([] : List UInt8).length 0 false = true := v
        have HV := Lib.hid hv
        clear hv
        go_wp2_with fail
        refine (Valid_any nm kind out size depth refresh xS [] cS 0 false _).mono ?_
        rintro e w2 ⟨rfl, hb⟩
        rw [HV.out]
        replace hB := thru hB hb
        clear hb
        go_wp2_with fail
        refine (awake_any _).mono ?_
        rintro e w3 ⟨rfl, hb⟩
        replace hB := thru hB hb
        go_wp2_with fail
        go_ret
        exact ⟨rfl, hB⟩
      · have hv := lst_valid1 (t := t) v hl0 hl1 ht0 (by omega)
        have HV := Lib.hid hv
        clear hv
        go_wp2_with fail
        refine (Valid_any nm kind out size depth refresh xS l cS t true _).mono ?_
        rintro e w2 ⟨rfl, hb⟩
        rw [HV.out]
        replace hB := thru hB hb
        clear hb
        go_wp2_with fail
        refine (awake_any _).mono ?_
        rintro e w3 ⟨rfl, hb⟩
        replace hB := thru hB hb
        go_wp2_with fail
        go_ret
        exact ⟨rfl, hB⟩


end Go.Proofs.Ytmeaelahmajheaa
