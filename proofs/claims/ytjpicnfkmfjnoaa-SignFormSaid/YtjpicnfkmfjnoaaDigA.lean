/- WALKS of the digest layer: Add, Finish, Of, Bytes. -/
import Derived.Test.YtjpicnfkmfjnoaaBytes
import Derived.Test.YtjpicnfkmfjnoaaRegion
import Derived.Test.YtjpicnfkmfjnoaaPureDigest
import Derived.Test.YtjpicnfkmfjnoaaWords
import Derived.Test.YtjpicnfkmfjnoaaTurns
import Derived.WalkKit
import Derived.Handy
import Derived.LoopN
import Derived.LoopTactic
import Derived.Lib.Hide
import Derived.Deep.OwnRows
namespace Go.Proofs.Ytjpicnfkmfjnoaa
open Go.RowKit

theorem rotl_any (x : D64) (w : World) :
    Calls Try.prog 59 #[.int .u64 (num x), .int .i64 20] w fun e w' => e = .returned (.int .u64 (num (Dig.rot x))) ∧ w' = w := by
  have hk : bits .and .u64 20 63 = 20 := by decide
  go_enter Try.func59, Try.ntmps59
  go_wp2_with fail
  go_ret
  exact ⟨rfl, rfl⟩

theorem fin_any (x : D64) (n : Int) (w : World) :
    Calls Try.prog 52 #[.agg #[.int .u64 (num x), .int .i64 n]] w fun e w' => e = .returned (.int .u64 (num (Dig.fin x n))) ∧ Below w.heap.size w w' := by
  have hn := wrap_num n
  go_enter Try.func52, Try.ntmps52
  go_wp2_with fail
  refine wp_loop_rounds 3 ?_
  repeat any_goals (rw [rounds_succ]; go_wp2)
  go_ret
  exact ⟨rfl, al (Below.refl _ w) _⟩

theorem u8_num (v : UInt8) : (v.toNat : Int) = num (Dig.ofB v) := by
  unfold num Dig.ofB; simp

/-- Nothing but the block b has changed. -/
def Only (b : Nat) (w w' : World) : Prop := Below b w w' ∧ w.heap.size = w'.heap.size ∧ ∀ k, k ≠ b → w'.heap[k]? = w.heap[k]?

theorem Only.refl (b : Nat) (w : World) : Only b w w := ⟨Below.refl _ _, rfl, fun _ _ => rfl⟩
theorem Only.setCell {b : Nat} {w w' : World} (h : Only b w w') (o : Nat) (v : Value) : Only b w (w'.setCell ⟨b, o, none⟩ v) :=
  ⟨h.1.setCell (Nat.le_refl _) v, h.2.1.trans (by simp), fun k hk => (Deep.blk_setCell_other _ _ _ _ hk).trans (h.2.2 k hk)⟩
theorem Only.cell {b : Nat} {w w' : World} (h : Only b w w') {a : Addr} {v : Value} (ha : a.block ≠ b) (hc : w.cell? a = some v) : w'.cell? a = some v := (World.cell?_of_block (w := w) (h.2.2 _ ha)).trans hc
theorem Only.frozen {b : Nat} {w w' : World} (h : Only b w w') {a : Addr} {v : Bool} (ha : a.block ≠ b) (hc : w.frozen? a = v) : w'.frozen? a = v := (World.frozen?_of_block (w := w) (h.2.2 _ ha)).trans hc

def Add1 (v : UInt8) (x : D64) (n : Int) (b : Nat) (w : World) (e : Ending) (w' : World) : Prop :=
  e = .returned (.tuple #[]) ∧ Only b w w' ∧ w'.cell? ⟨b, 0, none⟩ = some (.int .u64 (num (Dig.step x v))) ∧ w'.cell? ⟨b, 1, none⟩ = some (.int .i64 (wrap64 (n + 1))) ∧ w'.frozen? ⟨b, 0, none⟩ = false ∧ w'.frozen? ⟨b, 1, none⟩ = false

theorem add1_any (v : UInt8) (x : D64) (n : Int) (b : Nat) (w : World) (h0 : w.cell? ⟨b, 0, none⟩ = some (.int .u64 (num x))) (h1 : w.cell? ⟨b, 1, none⟩ = some (.int .i64 n)) (f0 : w.frozen? ⟨b, 0, none⟩ = false) (f1 : w.frozen? ⟨b, 1, none⟩ = false) :
    Calls Try.prog 58 #[.int .u8 (v.toNat : Int), .pointer (some ⟨b, 0, none⟩)] w (Add1 v x n b w) := by
  have hv := u8_num v
  go_enter Try.func58, Try.ntmps58
  go_wp2_with fail
  refine (rotl_any _ _).mono ?_
  rintro e w1 ⟨rfl, rfl⟩
  go_wp2_with fail
  go_end0
  exact ⟨rfl, ((((Only.refl b w).setCell _ _).setCell _ _).setCell _ _).setCell _ _, (by rw [World.cell?_setCell_other _ _ _ _ (by simp)]; exact World.cell?_setCell_same _ _ _ (World.cell?_setCell_same _ _ _ (World.cell?_setCell_same _ _ _ h0))), by go_simp, by go_simp, by go_simp⟩

def AddRel (x : D64) (n : Int) (l : List UInt8) (w : World) (i : Value) (wr : World) : Prop :=
  ∃ j : Nat, j ≤ l.length ∧ i = .int .i64 (j : Int) ∧ Below w.heap.size w wr ∧ w.heap.size + 1 < wr.heap.size ∧ wr.cell? ⟨w.heap.size, 0, none⟩ = some (.int .u64 (num (Dig.addL x (l.take j)))) ∧ wr.cell? ⟨w.heap.size, 1, none⟩ = some (.int .i64 (wrap64 (n + j))) ∧ wr.frozen? ⟨w.heap.size, 0, none⟩ = false ∧ wr.frozen? ⟨w.heap.size, 1, none⟩ = false ∧
    wr.cell? ⟨w.heap.size + 1, 0, none⟩ = some (.int .u64 0) ∧ wr.cell? ⟨w.heap.size + 1, 1, none⟩ = some (.int .i64 0) ∧ wr.frozen? ⟨w.heap.size + 1, 0, none⟩ = false ∧ wr.frozen? ⟨w.heap.size + 1, 1, none⟩ = false

theorem wrap64_id {n : Int} (h : -9223372036854775808 ≤ n ∧ n ≤ 9223372036854775807) : wrap64 n = n := by
  unfold wrap64; omega
theorem wrap64_succ (n : Int) (j : Nat) : wrap64 (wrap64 (n + (j : Int)) + 1) = wrap64 (n + ((j + 1 : Nat) : Int)) := by
  unfold wrap64; omega

set_option maxHeartbeats 1000000 in
theorem add_any (x : D64) (n : Int) (y : Option Addr) (l : List UInt8) (c : Nat) (w : World) (hn : -9223372036854775808 ≤ n ∧ n ≤ 9223372036854775807) (hl : (l.length : Int) ≤ 9223372036854775807) (hy : Bts w y l) :
    Calls Try.prog 53 #[.agg #[.int .u64 (num x), .int .i64 n], .slice y l.length c] w fun e w' => e = .returned (.agg #[.int .u64 (num (Dig.addL x l)), .int .i64 (wrap64 (n + l.length))]) ∧ Below w.heap.size w w' := by
  have hw := wrap64_id hn
  have HN := Lib.hid hn
  clear hn
  go_enter Try.func53, Try.ntmps53
  go_wp2_with fail
  go_loopw [11] (fun i wr => AddRel x n l w i wr) (fun i _ => l.length - (intOf i).toNat)
  case atStart => exact ⟨0, Nat.zero_le _, rfl, al (al (Below.refl _ w) _) _, by simp, by go_simp; rfl, by go_simp, by go_simp, by go_simp, by go_simp, by go_simp, by go_simp, by go_simp⟩
  case round =>
    obtain ⟨j, hj, rfl, hB, hz, c0, c1, f0, f1, r0, r1, q0, q1⟩ := hrel
    by_cases hlt : j < l.length
    · obtain ⟨b, o, rfl, hcl⟩ := (hy.later hB).resolve_left (by intro e; subst e; simp at hlt)
      have hcj := hcl j hlt
      obtain ⟨v, hv⟩ : ∃ v, l.getD j 0 = v := ⟨_, rfl⟩
      rw [hv] at hcj
      unfold encB at hcj
      have HV := Lib.hid hv
      clear hcl hv
      go_wp2_with fail
      refine (add1_any v _ _ _ _ c0 c1 f0 f1).mono ?_
      rintro e w1 ⟨rfl, ho, d0, d1, e0, e1⟩
      have k0 := ho.cell (by simp) r0
      have k1 := ho.cell (by simp) r1
      have m0 := ho.frozen (by simp) q0
      have m1 := ho.frozen (by simp) q1
      have HB := Lib.hid (hB.trans ho.1)
      have HS := Lib.hid ho.2.1
      have HD := Lib.hid d1
      clear ho hB d1 c0 c1 f0 f1 r0 r1 q0 q1 hcj
      go_wp2_with fail
      refine ⟨⟨j + 1, by omega, by simp, HB.out, by have := HS.out; omega, ?_, ?_, e0, e1, k0, k1, m0, m1⟩, by simp [intOf]; omega⟩
      · rw [take_succ_getD l j hlt, HV.out, Dig.addL_snoc]; exact d0
      · rw [← wrap64_succ]; exact HD.out
    · obtain rfl : j = l.length := by omega
      clear hlt hj
      rw [List.take_length] at c0
      have HB := Lib.hid hB
      clear hB
      go_wp2_with fail
      refine bodyPost_ret (v := .agg #[.int .u64 (num (Dig.addL x l)), .int .i64 (wrap64 (n + l.length))]) (by simp [results, Try.results53, go_sem, r0, r1]) rfl ⟨rfl, ?_⟩
      exact (HB.out.setCell (by simp) _).setCell (by simp) _

end Go.Proofs.Ytjpicnfkmfjnoaa
