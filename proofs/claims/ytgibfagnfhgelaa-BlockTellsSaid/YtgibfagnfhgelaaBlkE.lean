/- WALKS of the block layer: Valid, valid, length. -/
import Derived.Test.YtgibfagnfhgelaaBlkD
import Derived.Test.YtgibfagnfhgelaaRowsB
namespace Go.Proofs.Ytgibfagnfhgelaa
open Go.RowKit

/-- An operation: its block, whether it erases, its data. -/
structure OpV where
  blk : Int
  er : Bool
  x : Option Addr
  c : Nat
  d : List UInt8
def op0 : OpV := ⟨0, false, none, 0, []⟩
def opv (o : OpV) : Value := .agg #[.int .i64 o.blk, .bool o.er, .slice o.x o.d.length o.c]
def OpOk (w : World) (o : OpV) : Prop := Bts w o.x o.d ∧ (o.x = none → o.c = 0) ∧ o.d.length ≤ o.c ∧ o.c ≤ 9223372036854775807 ∧ -9223372036854775808 ≤ o.blk ∧ o.blk ≤ 9223372036854775807
/-- The slice that begins at x holds these operations. -/
def Ops (w : World) (x : Option Addr) (os : List OpV) : Prop :=
  (os = [] ∨ ∃ b o, x = some ⟨b, o, none⟩ ∧ ∀ i, i < os.length → w.cell? ⟨b, o + i * 3, none⟩ = some (.int .i64 (os.getD i op0).blk) ∧ w.cell? ⟨b, o + i * 3 + 1, none⟩ = some (.bool (os.getD i op0).er) ∧ w.cell? ⟨b, o + i * 3 + 2, none⟩ = some (.slice (os.getD i op0).x (os.getD i op0).d.length (os.getD i op0).c)) ∧ ∀ o, o ∈ os → OpOk w o
theorem OpOk.later {w w' : World} {o : OpV} (h : OpOk w o) (hb : Below w.heap.size w w') : OpOk w' o := ⟨h.1.later hb, h.2⟩
theorem Ops.later {w w' : World} {x : Option Addr} {os : List OpV} (h : Ops w x os) (hb : Below w.heap.size w w') : Ops w' x os := by
  refine ⟨?_, fun o ho => (h.2 o ho).later hb⟩
  rcases h.1 with h | ⟨b, o, hx, hc⟩
  · exact .inl h
  · exact .inr ⟨b, o, hx, fun i hi => ⟨Go.Proofs.Ytgibfagnfhgelaa.later hb (hc i hi).1, Go.Proofs.Ytgibfagnfhgelaa.later hb (hc i hi).2.1, Go.Proofs.Ytgibfagnfhgelaa.later hb (hc i hi).2.2⟩⟩
theorem Ops.at {w : World} {x : Option Addr} {os : List OpV} (h : Ops w x os) (i : Nat) (hi : i < os.length) : ∃ b o, x = some ⟨b, o, none⟩ ∧ w.cell? ⟨b, o + i * 3, none⟩ = some (.int .i64 (os.getD i op0).blk) ∧ w.cell? ⟨b, o + i * 3 + 1, none⟩ = some (.bool (os.getD i op0).er) ∧ w.cell? ⟨b, o + i * 3 + 2, none⟩ = some (.slice (os.getD i op0).x (os.getD i op0).d.length (os.getD i op0).c) ∧ OpOk w (os.getD i op0) := by
  rcases h.1 with h0 | ⟨b, o, hx, hc⟩
  · subst h0; simp at hi
  · exact ⟨b, o, hx, (hc i hi).1, (hc i hi).2.1, (hc i hi).2.2, h.2 _ (getD_mem _ _ _ hi)⟩

/-- A block of another size. -/
def badL (n : Nat) : Bool := n != 54
/-- An operation that a store of n blocks does not take. -/
def badO (n : Nat) (o : OpV) : Bool := decide (o.blk < 0) || decide ((n : Int) ≤ o.blk) || decide (48 < o.d.length) || (o.er && decide (0 < o.d.length))
/-- A valid store. -/
def vldS (ls : List (List UInt8)) : Bool := decide (1 ≤ ls.length) && decide (ls.length ≤ 64) && !ls.any fun l => badL l.length
/-- The number of an operation's steps. -/
def lenO (er : Bool) : Nat := if er then 54 else 108

set_option maxHeartbeats 400000 in
theorem len_any (o : OpV) (w : World) : Calls Try.prog 34 #[.agg #[.int .i64 o.blk, .bool o.er, .slice o.x o.d.length o.c]] w fun e w' => e = .returned (.int .i64 (lenO o.er : Int)) ∧ Below w.heap.size w w' := by
  obtain ⟨b, er, x, c, d⟩ := o
  cases er
  · go_enter Try.func34, Try.ntmps34
    go_wp2_with fail
    go_ret
    exact ⟨rfl, al (Below.refl _ _) _⟩
  · go_enter Try.func34, Try.ntmps34
    go_wp2_with fail
    go_ret
    exact ⟨rfl, al (Below.refl _ _) _⟩
set_option maxHeartbeats 400000 in
theorem valid1_any (x : Option Addr) (n c : Nat) (w : World) : Calls Try.prog 37 #[.slice x n c] w fun e w' => e = .returned (.bool (badL n)) ∧ w' = w := by
  by_cases h : n = 54
  · subst h
    go_enter Try.func37, Try.ntmps37
    go_wp2_with fail
    go_ret
    exact ⟨rfl, rfl⟩
  · have d1 : ((n : Int) != 54) = true := by simp; omega
    have d2 : (n != 54) = true := by simpa using h
    have hb : badL n = true := d2
    rw [hb]
    go_enter Try.func37, Try.ntmps37
    go_wp2_with fail
    go_ret
    exact ⟨rfl, rfl⟩
theorem any_of_bad {α : Type} (p : α → Bool) (l : List α) (j : Nat) (d : α) (hj : j < l.length) (h : p (l.getD j d) = true) : l.any p = true := by
  rw [List.any_eq_true]
  exact ⟨_, getD_mem l j d hj, h⟩
theorem any_none {α : Type} (p : α → Bool) (l : List α) (d : α) (h : ∀ j, j < l.length → p (l.getD j d) = false) : l.any p = false := by
  rw [List.any_eq_false]
  intro x hx
  obtain ⟨j, hj, rfl⟩ := List.getElem_of_mem hx
  have := h j hj
  rw [List.getD_eq_getElem?_getD, List.getElem?_eq_getElem hj] at this
  simpa using this
set_option maxHeartbeats 1000000 in
theorem index_any (x : Option Addr) (rs : List Rw) (c : Nat) (w : World) (hs : Rws w x rs) (hn : rs.length ≤ 1000) : Calls Try.prog 44 #[.slice x rs.length c, .func (.func 37) #[] #[]] w fun e w' => (∃ k : Int, e = .returned (.int .i64 k) ∧ decide (0 ≤ k) = rs.any (fun r => badL r.l.length)) ∧ w' = w := by
  go_enter Try.func44, Try.ntmps44
  go_wp2_with fail
  go_loop [8] (fun u8 => ∃ j : Nat, j ≤ rs.length ∧ u8 = .int .i64 (j : Int) ∧ ∀ i, i < j → badL (rs.getD i rw0).l.length = false) (fun u8 => rs.length - (intOf u8).toNat)
  case atStart => exact ⟨0, by omega, rfl, fun i hi => by omega⟩
  case round =>
    obtain ⟨j, hj, rfl, hgood⟩ := hrel
    by_cases hlt : j < rs.length
    · have d1 : decide ((j : Int) < (rs.length : Int)) = true := by simp; omega
      obtain ⟨b0, o0, rfl, hcj, hrj⟩ := hs.at j hlt
      obtain ⟨q, hq⟩ : ∃ q, badL (rs.getD j rw0).l.length = q := ⟨_, rfl⟩
      have hcj' : w.cell? ⟨b0, o0 + j, none⟩ = some (.slice (rs.getD j rw0).x (rs.getD j rw0).l.length (rs.getD j rw0).c) := hcj
      obtain ⟨rj, hrjv⟩ : ∃ r, rs.getD j rw0 = r := ⟨_, rfl⟩
      have HQ := Lib.hid hq
      rw [hrjv] at hcj' hq
      have HQ2 := Lib.hid hq
      have HG := Lib.hid hgood
      clear hcj hq hgood hrjv hrj
      go_wp2_with fail
      refine (valid1_any _ _ _ _).mono ?_
      rintro e w' ⟨rfl, rfl⟩
      rw [HQ2.out]
      cases q
      · go_wp2_with fail
        exact ⟨⟨j + 1, by omega, by go_num, fun i hi => by
          by_cases h : i = j
          · subst h; exact HQ.out
          · exact HG.out i (by omega)⟩, by simp [intOf]; omega⟩
      · go_wp2_with fail
        go_ret
        exact ⟨⟨_, rfl, by rw [any_of_bad (fun r : Rw => badL r.l.length) rs j rw0 hlt HQ.out]; simp⟩, rfl⟩
    · obtain rfl : j = rs.length := by omega
      have HG := Lib.hid hgood
      clear hgood
      go_wp2_with fail
      go_ret
      exact ⟨⟨_, rfl, by rw [any_none (fun r : Rw => badL r.l.length) rs rw0 HG.out]; simp⟩, rfl⟩

set_option maxHeartbeats 400000 in
theorem contains_any (x : Option Addr) (rs : List Rw) (c : Nat) (w : World) (hs : Rws w x rs) (hn : rs.length ≤ 1000) : Calls Try.prog 36 #[.slice x rs.length c, .func (.func 37) #[] #[]] w fun e w' => e = .returned (.bool (rs.any (fun r => badL r.l.length))) ∧ w' = w := by
  obtain ⟨q, hq⟩ : ∃ q, rs.any (fun r => badL r.l.length) = q := ⟨_, rfl⟩
  have HQ := Lib.hid hq
  rw [hq]
  clear hq
  go_enter Try.func36, Try.ntmps36
  go_wp2_with fail
  refine (index_any x rs c w hs hn).mono ?_
  rintro e w' ⟨⟨k, rfl, hk⟩, rfl⟩
  rw [HQ.out] at hk
  go_wp2_with fail
  go_ret
  exact ⟨rfl, rfl⟩
theorem vldS_eq (rs : List Rw) : vldS (rs.map (·.l)) = (decide (1 ≤ rs.length) && decide (rs.length ≤ 64) && !rs.any fun r => badL r.l.length) := by
  unfold vldS
  rw [List.length_map, List.any_map]
  rfl
set_option maxHeartbeats 1000000 in
theorem valid_any (x : Option Addr) (rs : List Rw) (c : Nat) (w : World) (hs : Rws w x rs) (hn : rs.length ≤ 1000) : Calls Try.prog 17 #[.agg #[.slice x rs.length c]] w fun e w' => e = .returned (.bool (vldS (rs.map (·.l)))) ∧ Below w.heap.size w w' := by
  rw [vldS_eq]
  have hs1 : ∀ ob, Rws (w.alloc ob) x rs := fun ob => hs.later (al (Below.refl _ w) ob)
  obtain ⟨q, hq⟩ : ∃ q, rs.any (fun r => badL r.l.length) = q := ⟨_, rfl⟩
  have HQ := Lib.hid hq
  rw [hq]
  clear hq
  by_cases h1 : 1 ≤ rs.length
  · have a1 : decide (1 ≤ rs.length) = true := decide_eq_true h1
    have a2 : decide ((1 : Int) ≤ (rs.length : Int)) = true := decide_eq_true (by omega)
    by_cases h2 : rs.length ≤ 64
    · have b1 : decide (rs.length ≤ 64) = true := decide_eq_true h2
      have b2 : decide ((rs.length : Int) ≤ 64) = true := decide_eq_true (by omega)
      rw [a1, b1]
      go_enter Try.func17, Try.ntmps17
      go_wp2_with fail
      refine (contains_any x rs c _ (hs1 _) hn).mono ?_
      rintro e w' ⟨rfl, rfl⟩
      rw [HQ.out]
      go_wp2_with fail
      go_ret
      exact ⟨by cases q <;> rfl, al (Below.refl _ _) _⟩
    · have b1 : decide (rs.length ≤ 64) = false := decide_eq_false h2
      have b2 : decide ((rs.length : Int) ≤ 64) = false := decide_eq_false (by omega)
      rw [a1, b1]
      go_enter Try.func17, Try.ntmps17
      go_wp2_with fail
      go_ret
      exact ⟨rfl, al (Below.refl _ _) _⟩
  · have a1 : decide (1 ≤ rs.length) = false := decide_eq_false h1
    have a2 : decide ((1 : Int) ≤ (rs.length : Int)) = false := decide_eq_false (by omega)
    rw [a1]
    go_enter Try.func17, Try.ntmps17
    go_wp2_with fail
    go_ret
    exact ⟨rfl, al (Below.refl _ _) _⟩

set_option maxHeartbeats 1000000 in
theorem valid2_any (o : OpV) (b n c : Nat) (x : Option Addr) (w : World) (hc : w.cell? ⟨b, 0, none⟩ = some (.slice x n c)) : Calls Try.prog 41 #[.agg #[.int .i64 o.blk, .bool o.er, .slice o.x o.d.length o.c], .pointer (some ⟨b, 0, none⟩)] w fun e w' => e = .returned (.bool (badO n o)) ∧ Below w.heap.size w w' := by
  obtain ⟨blk, er, xo, co, d⟩ := o
  have hb : b < w.heap.size := World.block_lt_of_cell? _ _ hc
  have hcn : ∀ ob, (w.alloc ob).cell? ⟨b, 0, none⟩ = some (.slice x n c) := fun ob => later (al (Below.refl _ w) ob) hc
  show Calls _ _ _ _ fun e w' => e = .returned (.bool (decide (blk < 0) || decide ((n : Int) ≤ blk) || decide (48 < d.length) || (er && decide (0 < d.length)))) ∧ Below w.heap.size w w'
  by_cases h1 : blk < 0
  · have a1 : decide (blk < 0) = true := decide_eq_true h1
    rw [a1]
    go_enter Try.func41, Try.ntmps41
    go_wp2_with fail
    go_ret
    exact ⟨rfl, al (Below.refl _ _) _⟩
  · have a1 : decide (blk < 0) = false := decide_eq_false h1
    by_cases h2 : (n : Int) ≤ blk
    · have a2 : decide ((n : Int) ≤ blk) = true := decide_eq_true h2
      rw [a1, a2]
      go_enter Try.func41, Try.ntmps41
      go_wp2_with fail
      go_ret
      exact ⟨rfl, al (Below.refl _ _) _⟩
    · have a2 : decide ((n : Int) ≤ blk) = false := decide_eq_false h2
      by_cases h3 : 48 < d.length
      · have a3 : decide (48 < d.length) = true := decide_eq_true h3
        have a4 : decide ((48 : Int) < (d.length : Int)) = true := decide_eq_true (by omega)
        rw [a1, a2, a3]
        go_enter Try.func41, Try.ntmps41
        go_wp2_with fail
        go_ret
        exact ⟨rfl, al (Below.refl _ _) _⟩
      · have a3 : decide (48 < d.length) = false := decide_eq_false h3
        have a4 : decide ((48 : Int) < (d.length : Int)) = false := decide_eq_false (by omega)
        cases er
        · rw [a1, a2, a3]
          go_enter Try.func41, Try.ntmps41
          go_wp2_with fail
          go_ret
          exact ⟨rfl, al (Below.refl _ _) _⟩
        · by_cases h4 : 0 < d.length
          · have a5 : decide (0 < d.length) = true := decide_eq_true h4
            have a6 : decide ((0 : Int) < (d.length : Int)) = true := decide_eq_true (by omega)
            rw [a1, a2, a3, a5]
            go_enter Try.func41, Try.ntmps41
            go_wp2_with fail
            go_ret
            exact ⟨rfl, al (Below.refl _ _) _⟩
          · have a5 : decide (0 < d.length) = false := decide_eq_false h4
            have a6 : decide ((0 : Int) < (d.length : Int)) = false := decide_eq_false (by omega)
            rw [a1, a2, a3, a5]
            go_enter Try.func41, Try.ntmps41
            go_wp2_with fail
            go_ret
            exact ⟨rfl, al (Below.refl _ _) _⟩

end Go.Proofs.Ytgibfagnfhgelaa
