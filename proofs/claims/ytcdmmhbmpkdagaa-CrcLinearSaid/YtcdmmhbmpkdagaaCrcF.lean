/- WALKS of the crc layer: Combine. -/
import Derived.Test.YtcdmmhbmpkdagaaCrcE
namespace Go.Proofs.Ytcdmmhbmpkdagaa
open Go.RowKit
attribute [local go_sem] Oper.semAt_some

theorem pow2_eq : ∀ k, pow2 k = 2 ^ k
  | 0 => rfl
  | k + 1 => by rw [pow2, pow2_eq k, Nat.pow_succ]; omega
theorem sqV_loop {L : Nat} (k v : Nat) (A B : World) (h : SqV k v A) (hl : ∃ r, A.heap[L]? = some (.loop r)) (ht : Turns (fun b => b = L) A B) : SqV k v B := by
  obtain ⟨r, hr⟩ := hl
  have hne : ¬ v = L := by
    rintro rfl
    have := h 0 (by omega)
    unfold World.cell? at this
    simp [hr] at this
  exact fun i hi => ht.cell hne (h i hi)

theorem and_one (m : Nat) (h : m < 4611686018427387904) : bits .and .i64 (m : Int) 1 = ((m % 2 : Nat) : Int) := by
  show IntKind.i64.wrap ((BitVec.ofInt 64 (m : Int) &&& BitVec.ofInt 64 1).toNat : Int) = _
  have e1 : (BitVec.ofInt 64 (m : Int)).toNat = m := by rw [BitVec.toNat_ofInt]; omega
  rw [BitVec.toNat_and, e1, show (BitVec.ofInt 64 1).toNat = 1 from rfl, Nat.and_one_is_mod]
  simp [IntKind.wrap, IntKind.bits, IntKind.signed]
  omega

def CoI (a : W32) (N : Nat) (w : World) (k : Nat) (S : List Nat) (W : World) : Prop :=
  S = [w.heap.size, w.heap.size + 1] ∧ (k = 0 ∨ ¬ N / 2 ^ (k - 1) = 0) ∧ Below w.heap.size w W ∧
  W.cell? ⟨w.heap.size, 0, none⟩ = some (.int .u32 (n32 (Crc.bitN (8 * (N % 2 ^ k)) a))) ∧ W.cell? ⟨w.heap.size + 1, 0, none⟩ = some (.int .i64 ((N / 2 ^ k : Nat) : Int)) ∧
  W.frozen? ⟨w.heap.size, 0, none⟩ = false ∧ W.frozen? ⟨w.heap.size + 1, 0, none⟩ = false
def CoX (a : W32) (N : Nat) (w : World) (c : Code) (_ : Nat) (_ : List Nat) (W : World) : Prop :=
  c = .exit 0 ∧ Below w.heap.size w W ∧ W.cell? ⟨w.heap.size, 0, none⟩ = some (.int .u32 (n32 (Crc.bitN (8 * N) a)))
theorem CoI.turn {a : W32} {N : Nat} {w : World} {k : Nat} {S : List Nat} {A B : World} {T : Nat → Prop} (h : CoI a N w k S A) (ht : Turns T A B) (hT : ∀ b, T b → w.heap.size + 2 ≤ b) : CoI a N w k S B := by
  obtain ⟨hS, hg, hB, c0, c1, f0, f1⟩ := h
  have ne : ∀ b, b < w.heap.size + 2 → ¬ T b := fun b hb e => by have := hT b e; omega
  exact ⟨hS, hg, hB.trans (ht.below hB.size (fun i hi => ne i (by omega))), ht.cell (ne w.heap.size (by omega)) c0, ht.cell (ne (w.heap.size + 1) (by omega)) c1,
    ht.frozen (ne w.heap.size (by omega)) (World.block_lt_of_cell? _ _ c0) f0, ht.frozen (ne (w.heap.size + 1) (by omega)) (World.block_lt_of_cell? _ _ c1) f1⟩
theorem CoX.turn {a : W32} {N : Nat} {w : World} {c : Code} {k : Nat} {S : List Nat} {A B : World} {T : Nat → Prop} (h : CoX a N w c k S A) (ht : Turns T A B) (hT : ∀ b, T b → w.heap.size + 2 ≤ b) : CoX a N w c k S B := by
  obtain ⟨hS, hB, c0⟩ := h
  have ne : ∀ b, b < w.heap.size + 2 → ¬ T b := fun b hb e => by have := hT b e; omega
  exact ⟨hS, hB.trans (ht.below hB.size (fun i hi => ne i (by omega))), ht.cell (ne w.heap.size (by omega)) c0⟩
theorem CoI.no {a : W32} {N : Nat} {w : World} {S : List Nat} {A : World} (hN : N ≤ 1048576) (h : CoI a N w 22 S A) : False := by
  rcases h.2.1 with h | h
  · omega
  · apply h; exact Nat.div_eq_of_lt (by omega)

def WordOf (s : W32) (w : World) (e : Ending) (w' : World) : Prop := e = .returned (.int .u32 (n32 s)) ∧ Below w.heap.size w w'

set_option maxRecDepth 100000 in
set_option maxHeartbeats 2000000 in
theorem combine_any (a b : W32) (N : Nat) (w : World) (hN : N ≤ 1048576) : Calls Try.prog 15 #[.int .u32 (n32 a), .int .u32 (n32 b), .int .i64 (N : Int)] w (WordOf (Crc.combine a b N) w) := by
  have hd1 : decide ((N : Int) < 0) = false := decide_eq_false (by omega)
  have hd2 : decide (1048576 < (N : Int)) = false := decide_eq_false (by omega)
  have hc := later (w' := (w.alloc (.cells #[.int .u32 (n32 a)] 23)).alloc (.cells #[.int .i64 (N : Int)] 3)) (Below.refl _ _) (a := ⟨w.heap.size, 0, none⟩) (v := .int .u32 (n32 a)) (by go_simp)
  have hB0 := al (al (Below.refl _ w) (.cells #[.int .u32 (n32 a)] 23)) (.cells #[.int .i64 (N : Int)] 3)
  refine (callsIn_wide (n := 5)).1 ?_
  refine callsIn_of_wp_marks Try.func15 rfl trivial ?_ rfl
  simp only [Try.ntmps15, List.size_toArray, List.length_cons, List.length_nil, Nat.reduceAdd, Nat.reduceSub, Array.replicate_succ, Array.replicate_zero, List.push_toArray, List.append_toArray, List.nil_append, List.cons_append]
  gi_wp2_with (refine ⟨trivial, ?_⟩; gi_at_call 20; refine (callsIn_wide.2 (squares_any _)).mono ?_; rintro e w1 ⟨rfl, rfl⟩)
  clear hd1 hd2
  refine wpIn_rangeV (α := Nat) (encs := fun v => #[.pointer (some ⟨v, 0, none⟩)]) (len := 22) (V := SqV) (stops := False) (T := fun _ => False) (gf := 23) (lb := #[]) rfl (enters_of Try.func23 (by kernel_rfl) rfl) (fun _ e => e.elim)
    (squares1_in (5 - 1) (by omega) 22 _) (fun k v A B h hl ht => sqV_loop k v A B h hl ht) (fun _ => rfl) (CoI a N w) (CoX a N w) [w.heap.size, w.heap.size + 1] (fun b hb => by simp at hb ⊢; omega) ?hI ?hX (.inr fun S A h => h.no hN) ?h0
    (fun v => { tmps := #[.int .u32 (n32 a), .int .u32 (n32 b), .int .i64 (N : Int), .pointer (some ⟨w.heap.size, 0, none⟩), undef, .pointer (some ⟨w.heap.size + 1, 0, none⟩), .int .u32 0, .pointer (some ⟨v, 0, none⟩), .int .i64 (N : Int), .bool false, .bool false, .int .i64 (N : Int), .bool false, .bool false, .func (.func 23) #[] #[], .pointer (some ⟨v, 0, none⟩), undef, undef, undef, undef, undef, undef, undef, undef, undef, undef, undef, undef, undef], defers := [] }) ?assign ?body ?done ?stop
  case hI =>
    intro k S A B h ht
    exact h.turn ht (by rintro b (h | rfl | rfl) <;> first | exact h.elim | (simp <;> omega))
  case hX =>
    intro c k S A B h ht
    exact h.turn ht (by rintro b (h | rfl | rfl) <;> first | exact h.elim | (simp <;> omega))
  case h0 => exact ⟨rfl, .inl rfl, hB0, by rw [Nat.pow_zero, Nat.mod_one]; go_simp; rfl, by rw [Nat.pow_zero, Nat.div_one]; go_simp, by go_simp, by go_simp⟩
  case assign =>
    intro x W K hK
    gi_wp2_with fail
    exact hK
  case body =>
    rintro k S v W hk hz hv ⟨rfl, hg, hB, c0, c1, f0, f1⟩ hS
    clear hc hB0
    have hx : N % 2 ^ (k + 1) = N % 2 ^ k + 2 ^ k * (N / 2 ^ k % 2) := Nat.mod_pow_succ
    have hdiv : N / 2 ^ (k + 1) = N / 2 ^ k / 2 := by rw [Nat.pow_succ, Nat.div_div_eq_div_mul]
    obtain ⟨m, hm⟩ : ∃ m, N / 2 ^ k = m := ⟨_, rfl⟩
    have hmN : m ≤ 1048576 := by rw [← hm]; exact Nat.le_trans (Nat.div_le_self _ _) hN
    obtain ⟨y, hy⟩ : ∃ y, Crc.bitN (8 * (N % 2 ^ k)) a = y := ⟨_, rfl⟩
    rw [hm] at c1 hx hdiv
    rw [hy] at c0
    have hM := zmat_apply (8 * pow2 k) y
    have HM := Lib.hid hM
    have HX := Lib.hid hx
    have HD := Lib.hid hdiv
    have HY := Lib.hid hy
    have HG := Lib.hid hg
    have Hm := Lib.hid hm
    clear hx hdiv hy hM hg hm
    by_cases h0 : m = 0
    · subst h0
      gi_wp2_with fail
      have hN2 : N % 2 ^ k = N := by have := Nat.div_add_mod N (2 ^ k); rw [Hm.out] at this; omega
      have hy := HY.out
      rw [hN2] at hy
      exact ⟨_, fun b hb => ⟨hS b hb, .inl hb⟩, Turns.refl _ _, rfl, hB, by rw [hy]; exact c0⟩
    · have hq : ((m : Int) == 0) = false := by simp only [beq_eq_false_iff_ne, ne_eq]; omega
      have hdm : ((m / 2 : Nat) : Int) = (m : Int) / 2 := by omega
      have H0 : Hid (¬ N / 2 ^ (k + 1 - 1) = 0) := by show ¬ _; rw [Nat.add_sub_cancel, Hm.out]; exact h0
      have HDM := Lib.hid hdm
      clear hdm h0
      by_cases h1 : m % 2 = 1
      · have ha : bits .and .i64 (m : Int) 1 = 1 := by rw [and_one m (by omega), h1]; rfl
        have HE : Hid (Crc.bitN (8 * (N % 2 ^ (k + 1))) a = matN (zmat (8 * pow2 k)) y 32) := by
          show _ = _
          rw [HX.out, h1, HM.out, ← HY.out, ← Crc.bitN_add, Nat.mul_one, pow2_eq, Nat.mul_add]
        clear h1
        gi_wp2_with (refine ⟨trivial, ?_⟩; gi_at_call 21; refine (CallsIn.inRound _ (callsIn_wide.2 (apply_any v (zmat (8 * pow2 k)) y _ hv))).mono ?_; rintro e w' ⟨rfl, hw⟩; obtain rfl : W = w' := hw.symm)
        refine ⟨_, fun b hb => ⟨by have := hS b hb; simpa using this, .inl hb⟩, ((Turns.refl _ W).setCell (fun _ => by simp) _).setCell (fun _ => by simp) _, rfl, .inr H0.out, (hB.setCell (p := ⟨w.heap.size, 0, none⟩) (by simp) _).setCell (p := ⟨w.heap.size + 1, 0, none⟩) (by simp) _, by rw [HE.out]; go_simp, by rw [HD.out, HDM.out]; go_simp, by go_simp, by go_simp⟩
      · have ha : bits .and .i64 (m : Int) 1 = 0 := by rw [and_one m (by omega), show m % 2 = 0 by omega]; rfl
        have HE : Hid (Crc.bitN (8 * (N % 2 ^ (k + 1))) a = y) := by
          show _ = _
          rw [HX.out, show m % 2 = 0 by omega, Nat.mul_zero, Nat.add_zero, HY.out]
        clear h1
        gi_wp2_with fail
        refine ⟨_, fun b hb => ⟨by have := hS b hb; simpa using this, .inl hb⟩, (Turns.refl _ W).setCell (fun _ => by simp) _, rfl, .inr H0.out, hB.setCell (p := ⟨w.heap.size + 1, 0, none⟩) (by simp) _, by rw [HE.out]; go_simp, by rw [HD.out, HDM.out]; go_simp, by go_simp, by go_simp⟩
  case done =>
    intro S W hz h hK
    exact (h.no hN).elim
  case stop =>
    rintro c k S W hk hz ⟨rfl, hB, c0⟩ hK
    have hs0 : w.heap.size < W.heap.size := World.block_lt_of_cell? _ _ c0
    gi_wp2_with fail
    refine ret_mark (.int .u32 (n32 (Crc.combine a b N))) hK (fun W3 ht3 => ?_)
    refine ⟨by simp [results, Try.f15, go_sem]; rfl, rfl, hB.trans (ht3.below (by omega) (fun i hi e => by simp at e; omega))⟩

end Go.Proofs.Ytcdmmhbmpkdagaa
