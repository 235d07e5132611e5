/- WALKS of the sign layer: Sign. -/
import Derived.Test.YtjpicnfkmfjnoaaSgnG
import Derived.Test.YtjpicnfkmfjnoaaArrI
import Derived.Test.YtjpicnfkmfjnoaaAppX
import Derived.Laws.ResultCell
namespace Go.Proofs.Ytjpicnfkmfjnoaa
open Go.RowKit

attribute [local go_sem] Oper.semAt_some
theorem blk_zero (w : World) : Blk (w.alloc (.cells #[.int .i64 0, .int .u64 0, .int .u64 0, .int .u64 0, .int .u64 0, .int .u64 0, .int .u64 0, .int .u64 0, .int .u64 0, .int .u64 0, .int .u64 0, .int .u64 0, .int .u64 0, .int .u64 0, .int .u64 0, .int .u64 0, .int .u64 0, .int .u64 0, .int .u64 0, .slice none 0 0] 34)) w.heap.size 0 20 zeroS := blk_new w 20 zeroS _ _ rfl
set_option maxHeartbeats 1000000 in
theorem sign_bad (seed : D64) (h q : Int) (d : D64) (hn : vldS h q = false) (w : World) : Calls Try.prog 18 #[.int .u64 (num seed), .int .i64 h, .int .i64 q, .int .u64 (num d)] w fun e w' => e = .returned (.tuple #[aggN 20 zeroS, .int .i64 2]) ∧ Below w.heap.size w w' := by
  have hb0 : Blk (((w.alloc (.cells #[.int .u64 (num seed)] 22)).alloc (.cells #[.int .i64 q] 3)).alloc (.cells #[.int .i64 0, .int .u64 0, .int .u64 0, .int .u64 0, .int .u64 0, .int .u64 0, .int .u64 0, .int .u64 0, .int .u64 0, .int .u64 0, .int .u64 0, .int .u64 0, .int .u64 0, .int .u64 0, .int .u64 0, .int .u64 0, .int .u64 0, .int .u64 0, .int .u64 0, .slice none 0 0] 34)) (w.heap.size + 1 + 1) 0 20 zeroS := by
    have := blk_zero ((w.alloc (.cells #[.int .u64 (num seed)] 22)).alloc (.cells #[.int .i64 q] 3))
    rwa [World.size_alloc, World.size_alloc] at this
  have hB := al (al (al (Below.refl _ w) (.cells #[.int .u64 (num seed)] 22)) (.cells #[.int .i64 q] 3)) (.cells #[.int .i64 0, .int .u64 0, .int .u64 0, .int .u64 0, .int .u64 0, .int .u64 0, .int .u64 0, .int .u64 0, .int .u64 0, .int .u64 0, .int .u64 0, .int .u64 0, .int .u64 0, .int .u64 0, .int .u64 0, .int .u64 0, .int .u64 0, .int .u64 0, .int .u64 0, .slice none 0 0] 34)
  obtain ⟨W4, hs1, hset⟩ := run_storeS hb0 0 (fun _ => 0#64) none 0 0
  have hl := run_loadS hset.blk
  have hB4 := hset.below _ _ (by omega) hB
  clear hb0 hB hset
  refine (callsIn_wide (n := 5)).1 ?_
  refine callsIn_of_wp_marks Try.func18 rfl trivial ?_ rfl
  simp only [Try.ntmps18, List.size_toArray, List.length_cons, List.length_nil, Nat.reduceAdd, Nat.reduceSub, Array.replicate_succ, Array.replicate_zero, List.push_toArray, List.append_toArray, List.nil_append, List.cons_append]
  gi_wp2_with (first | (refine ⟨trivial, ?_⟩; gi_at_call 43; refine (callsIn_wide.2 (valid_no h q hn _)).mono ?_; rintro e w1 ⟨rfl, rfl⟩) | (refine wpListIn_storeN rfl rfl _ _ _ rfl (b := w.heap.size + 1 + 1) (q := 0) rfl hs1 ?_))
  refine ret_plain (.tuple #[aggN 20 zeroS, .int .i64 2]) ?_ ⟨rfl, hB4⟩
  rw [results_cell_tmp rfl]
  simp [asAddr, Result.andThen]
  rw [hl]
  rfl

theorem Blk.turn {A B : World} {b o n : Nat} {v : Nat → Value} {T : Nat → Prop} (h : Blk A b o n v) (ht : Turns T A B) (hb : ¬ T b) : Blk B b o n v := fun j hj =>
  ⟨ht.cell (p := ⟨b, o + j, none⟩) hb (h j hj).1, ht.frozen (p := ⟨b, o + j, none⟩) hb (World.block_lt_of_cell? _ _ (h j hj).1) (h j hj).2⟩
theorem rowV_cell {seed : D64} {h k : Nat} {v : Nat × Nat} {W : World} (hv : RowV seed h k v W) (i : Nat) (hi : i < 2 ^ (h - k)) : W.cell? ⟨v.1, i, none⟩ = some (.int .u64 (num (Sgn.node seed k i))) := by
  obtain ⟨h1, h2⟩ := hv
  rcases h2 with h2 | ⟨b, o, hx, hc⟩
  · have := Sgn.row_length seed h k
    rw [h2] at this
    simp at this
    omega
  · cases hx
    have := hc i (by rw [Sgn.row_length]; exact hi)
    rw [Sgn.row_getD _ _ _ _ hi, Nat.zero_add] at this
    exact this
theorem sib_lt (q M : Nat) (h : q < 2 * M) : Sgn.sib q < 2 * M := by unfold Sgn.sib; split <;> omega
theorem sib_xor : ∀ m : Fin 64, bits .xor .i64 (m.1 : Int) 1 = ((Sgn.sib m.1 : Nat) : Int) := by decide +kernel
theorem path_take (seed : D64) (h q k : Nat) (hk : k < h) : (Sgn.path seed h q).take k ++ [Sgn.node seed k (Sgn.sib (q / 2 ^ k))] = (Sgn.path seed h q).take (k + 1) := by
  have hl : k < (Sgn.path seed h q).length := by rw [Sgn.path_length]; exact hk
  have e : (Sgn.path seed h q)[k]? = some (Sgn.node seed k (Sgn.sib (q / 2 ^ k))) := by
    unfold Sgn.path
    rw [List.getElem?_map, List.getElem?_range hk]
    rfl
  rw [List.getElem?_eq_getElem hl] at e
  rw [List.take_succ_eq_append_getElem hl, Option.some.inj e]
theorem Blk.low {A B : World} {b o n C : Nat} {v : Nat → Value} (h : Blk A b o n v) (hb : Below C A B) (hlt : b < C) : Blk B b o n v := fun j hj =>
  ⟨(hb.cell (p := ⟨b, o + j, none⟩) hlt).trans (h j hj).1, (hb.frozen (p := ⟨b, o + j, none⟩) hlt).trans (h j hj).2⟩
theorem Blk.other {W : World} {b o n : Nat} {v : Nat → Value} (h : Blk W b o n v) {p : Addr} (hp : p.block ≠ b) (u : Value) : Blk (W.setCell p u) b o n v := fun j hj =>
  ⟨by rw [World.cell?_setCell_other _ _ _ _ (by intro e; subst e; exact hp rfl)]; exact (h j hj).1, by rw [World.frozen?_setCell]; exact (h j hj).2⟩
theorem rowS_mem {x : Option Addr} {b : Nat} (h : RowOf x b) : b ∈ rowS x := by
  cases x with
  | none => cases h
  | some a => cases h; simp [rowS]
theorem sig_path {W : World} {b : Nat} {key : Int} {f : Nat → D64} {x : Option Addr} {n c : Nat} (g : Blk W b 0 20 (sigV key f x n c)) (x' : Option Addr) (n' c' : Nat) : Blk (W.setCell ⟨b, 19, none⟩ (.slice x' n' c')) b 0 20 (sigV key f x' n' c') := by
  intro j hj
  rw [Nat.zero_add]
  refine ⟨?_, by rw [World.frozen?_setCell]; exact (g.at j hj).2⟩
  by_cases h1 : j = 19
  · subst h1
    exact World.cell?_setCell_same' _ _ _ (by rw [(g.at 19 hj).1]; rfl)
  · rw [World.cell?_setCell_other _ _ _ _ (by simp <;> omega), (g.at j hj).1]
    unfold sigV
    by_cases h0 : j = 0
    · rw [if_pos h0, if_pos h0]
    · rw [if_neg h0, if_neg h0, if_pos (by omega), if_pos (by omega)]
def SiI (seed : D64) (h q : Nat) (f : Nat → D64) (sb B : Nat) (w : World) (k : Nat) (S : List Nat) (W : World) : Prop :=
  ∃ x c, S = (w.heap.size + 1) :: sb :: rowS x ∧ OwnsW B W x c ((Sgn.path seed h q).take k) ∧ Blk W sb 0 20 (sigV (q : Int) f x ((Sgn.path seed h q).take k).length c) ∧ W.cell? ⟨w.heap.size + 1, 0, none⟩ = some (.int .i64 ((q / 2 ^ k : Nat) : Int)) ∧
    W.frozen? ⟨w.heap.size + 1, 0, none⟩ = false ∧ Blk W (w.heap.size + 1 + 1) 0 20 zeroS ∧ Below w.heap.size w W
theorem SiI.turn {seed : D64} {h q : Nat} {f : Nat → D64} {sb B : Nat} {w : World} {k : Nat} {S : List Nat} {X Y : World} {T : Nat → Prop} (hi : SiI seed h q f sb B w k S X) (ht : Turns T X Y) (hT : ∀ b, T b → w.heap.size + 3 ≤ b ∧ b ≠ sb ∧ b < B) : SiI seed h q f sb B w k S Y := by
  obtain ⟨x, c, hS, ho, g, cq, fq, e0, hB⟩ := hi
  have n1 : ¬ T (w.heap.size + 1) := fun e => by have := (hT _ e).1; omega
  have n2 : ¬ T (w.heap.size + 1 + 1) := fun e => by have := (hT _ e).1; omega
  exact ⟨x, c, hS, ho.turn ht (fun b hb e => by have := (ho.low b hb).1; have := (hT b e).2.2; omega), g.turn ht (fun e => (hT _ e).2.1 rfl), ht.cell n1 cq, ht.frozen n1 (World.block_lt_of_cell? _ _ cq) fq, e0.turn ht n2,
    hB.trans (ht.below hB.size (fun i hi e => by have := (hT i e).1; omega))⟩
theorem sig_chain {W W2 : World} {b : Nat} {key : Int} {f0 f : Nat → D64} {x : Option Addr} {n c : Nat} (g : Blk W b 0 20 (sigV key f0 x n c)) (h : BlkSet b 1 18 (wrdV f) W W2) : Blk W2 b 0 20 (sigV key f x n c) := by
  intro j hj
  rw [Nat.zero_add]
  refine ⟨?_, (h.frozen _).trans (g.at j hj).2⟩
  by_cases h1 : 1 ≤ j ∧ j < 19
  · have := (h.blk (j - 1) (by omega)).1
    rw [show 1 + (j - 1) = j by omega] at this
    rw [this]
    unfold sigV wrdV
    rw [if_neg (by omega), if_pos h1.2]
  · rw [h.cell ⟨b, j, none⟩ (fun _ _ => by show j < 1 ∨ 1 + 18 ≤ j; omega), (g.at j hj).1]
    unfold sigV
    by_cases h0 : j = 0
    · rw [if_pos h0, if_pos h0]
    · rw [if_neg h0, if_neg h0, if_neg (by omega), if_neg (by omega)]
set_option maxHeartbeats 2000000 in
theorem sign_ok (seed : D64) (h q : Nat) (d : D64) (h6 : h ≤ 6) (hq : q < 2 ^ h) (w : World) : Calls Try.prog 18 #[.int .u64 (num seed), .int .i64 (h : Int), .int .i64 (q : Int), .int .u64 (num d)] w fun e w' => ∃ x c, e = .returned (.tuple #[aggN 20 (sigV (q : Int) (fun i => Sgn.val seed (u8z (q : Int)) (u8z ((q : Int) / 256)) i (Sgn.dig d i)) x h c), .int .i64 0]) ∧ OwnsW w.heap.size w' x c (Sgn.path seed h q) ∧ Below w.heap.size w w' := by
  have hqi : (q : Int) < 2 ^ h := by
    have : ((q : Nat) : Int) < ((2 ^ h : Nat) : Int) := by exact_mod_cast hq
    simpa using this
  have hb0 : Blk (((w.alloc (.cells #[.int .u64 (num seed)] 22)).alloc (.cells #[.int .i64 (q : Int)] 3)).alloc (.cells #[.int .i64 0, .int .u64 0, .int .u64 0, .int .u64 0, .int .u64 0, .int .u64 0, .int .u64 0, .int .u64 0, .int .u64 0, .int .u64 0, .int .u64 0, .int .u64 0, .int .u64 0, .int .u64 0, .int .u64 0, .int .u64 0, .int .u64 0, .int .u64 0, .int .u64 0, .slice none 0 0] 34)) (w.heap.size + 1 + 1) 0 20 zeroS := by
    have := blk_zero ((w.alloc (.cells #[.int .u64 (num seed)] 22)).alloc (.cells #[.int .i64 (q : Int)] 3))
    rwa [World.size_alloc, World.size_alloc] at this
  have hB := al (al (al (Below.refl _ w) (.cells #[.int .u64 (num seed)] 22)) (.cells #[.int .i64 (q : Int)] 3)) (.cells #[.int .i64 0, .int .u64 0, .int .u64 0, .int .u64 0, .int .u64 0, .int .u64 0, .int .u64 0, .int .u64 0, .int .u64 0, .int .u64 0, .int .u64 0, .int .u64 0, .int .u64 0, .int .u64 0, .int .u64 0, .int .u64 0, .int .u64 0, .int .u64 0, .int .u64 0, .slice none 0 0] 34)
  refine (callsIn_wide (n := 5)).1 ?_
  refine callsIn_of_wp_marks Try.func18 rfl trivial ?_ rfl
  simp only [Try.ntmps18, List.size_toArray, List.length_cons, List.length_nil, Nat.reduceAdd, Nat.reduceSub, Array.replicate_succ, Array.replicate_zero, List.push_toArray, List.append_toArray, List.nil_append, List.cons_append]
  gi_wp2_with (first | (refine ⟨trivial, ?_⟩; gi_at_call 43; refine (callsIn_wide.2 (valid_yes h (q : Int) h6 (by omega) hqi _)).mono ?_; rintro e w1 ⟨rfl, rfl⟩) | (refine ⟨trivial, ?_⟩; gi_at_call 11; refine (callsIn_wide.2 (digits_any d _)).mono ?_; rintro e w1 ⟨rfl, hb1⟩; refine Hid.out ?_))
  unfold Hid
  have hmf : ∀ (fn : Fn) (first cap : Array Value) (w : World), (Instr.makeFunc fn first cap).run Try.prog w = .ok (.func fn first cap) w := fun _ _ _ _ => rfl
  have s1 : w1.cell? ⟨w.heap.size, 0, none⟩ = some (.int .u64 (num seed)) := later hb1 (by go_simp)
  have q1 : w1.cell? ⟨w.heap.size + 1, 0, none⟩ = some (.int .i64 (q : Int)) := later hb1 (by go_simp)
  have fq1 : w1.frozen? ⟨w.heap.size + 1, 0, none⟩ = false := (Below.frozen hb1 (p := ⟨w.heap.size + 1, 0, none⟩) (by simp <;> omega)).trans (show _ = false by go_simp)
  have e1 := hb0.later hb1
  replace hB := thru hB hb1
  have hz1 : w.heap.size + 1 + 1 < w1.heap.size := by have := hb1.size; simp at this; omega
  clear hb0 hb1
  -- the digits' box
  have a1 : Arr (w1.alloc (.cells #[.int .i64 0, .int .i64 0, .int .i64 0, .int .i64 0, .int .i64 0, .int .i64 0, .int .i64 0, .int .i64 0, .int .i64 0, .int .i64 0, .int .i64 0, .int .i64 0, .int .i64 0, .int .i64 0, .int .i64 0, .int .i64 0, .int .i64 0, .int .i64 0] 24)) w1.heap.size (fun _ => .int .i64 0) := arr_new w1 _ _ _ rfl
  obtain ⟨Y2, hs2, hset2⟩ := run_storeA (P := Try.prog) a1 (v := digV d) (fun _ _ => rfl) arrI_size
  have al1 := al (Below.refl _ w1) (.cells #[.int .i64 0, .int .i64 0, .int .i64 0, .int .i64 0, .int .i64 0, .int .i64 0, .int .i64 0, .int .i64 0, .int .i64 0, .int .i64 0, .int .i64 0, .int .i64 0, .int .i64 0, .int .i64 0, .int .i64 0, .int .i64 0, .int .i64 0, .int .i64 0] 24)
  have hq2 : Below w1.heap.size w1 Y2 := hset2.below _ _ (Nat.le_refl _) al1
  have hz2 : w1.heap.size < Y2.heap.size := by have := hset2.size; simp at this; omega
  have s2 := later hq2 s1
  have q2 := later hq2 q1
  have fq2 := (Below.frozen hq2 (World.block_lt_of_cell? _ _ q1)).trans fq1
  have e2 := e1.later hq2
  have d2 := hset2.arr
  replace hB := thru hB hq2
  -- the signature's box
  have b2 := blk_zero Y2
  obtain ⟨Y4, hs4, hset4⟩ := run_storeS b2 (q : Int) (fun _ => 0#64) none 0 0
  have al2 := al (Below.refl _ Y2) (.cells #[.int .i64 0, .int .u64 0, .int .u64 0, .int .u64 0, .int .u64 0, .int .u64 0, .int .u64 0, .int .u64 0, .int .u64 0, .int .u64 0, .int .u64 0, .int .u64 0, .int .u64 0, .int .u64 0, .int .u64 0, .int .u64 0, .int .u64 0, .int .u64 0, .int .u64 0, .slice none 0 0] 34)
  have hq4 : Below Y2.heap.size Y2 Y4 := hset4.below _ _ (Nat.le_refl _) al2
  have hz4 : Y2.heap.size < Y4.heap.size := by have := hset4.size; simp at this; omega
  have s4 := later hq4 s2
  have q4 := later hq4 q2
  have fq4 := (Below.frozen hq4 (World.block_lt_of_cell? _ _ q2)).trans fq2
  have e4 := e2.later hq4
  have d4 := d2.later hq4
  have g4 := hset4.blk
  replace hB := thru hB hq4
  clear al1 al2 a1 b2 hset2 hset4 hq2 hq4 s1 q1 fq1 e1 fq2 e2 d2
  gi_wp2_with (first | (refine wpListIn_storeN rfl rfl _ _ _ rfl (b := w1.heap.size) (q := 0) rfl hs2 ?_) | (refine wpListIn_storeN rfl rfl _ _ _ rfl (b := Y2.heap.size) (q := 0) rfl hs4 ?_))
  obtain ⟨f, hf⟩ : ∃ f : Nat → D64, (fun i => Sgn.val seed (u8z (q : Int)) (u8z ((q : Int) / 256)) i (Sgn.dig d i)) = f := ⟨_, rfl⟩
  have hcl : ∀ (i : Nat) (W : World), i < 18 → Below Y4.heap.size Y4 W → Calls Try.prog 45 (#[.int .i64 (i : Int)] ++ #[.pointer (some ⟨w1.heap.size, 0, none⟩), .pointer (some ⟨w.heap.size, 0, none⟩), .pointer (some ⟨w.heap.size + 1, 0, none⟩)]) W (NumOf (f i) W) := fun i W hi hb => by
    rw [← hf]
    exact sign1_any d seed (q : Int) i _ _ _ W hi (d4.later hb) (later hb s4) (later hb q4)
  have HF := Lib.hid hf
  clear hf
  refine ⟨trivial, ?_⟩
  refine (callsIn_wide.2 (values_any 45 _ f Y4 (enters_of Try.func45 (by kernel_rfl) rfl) hcl)).mono ?_
  rintro e w5 ⟨rfl, hb5⟩
  have s5 := later hb5 s4
  have q5 := later hb5 q4
  have fq5 := (Below.frozen hb5 (World.block_lt_of_cell? _ _ q4)).trans fq4
  have e5 := e4.later hb5
  have g5 := g4.later hb5
  have hz5 : Y2.heap.size < w5.heap.size := Nat.lt_of_lt_of_le hz4 hb5.size
  replace hB := thru hB hb5
  clear hcl s4 q4 fq4 e4 g4 d4 hb5 hs2 hs4 s2 q2
  obtain ⟨sb, hsb⟩ : ∃ b, Y2.heap.size = b := ⟨_, rfl⟩
  rw [hsb] at g5 hz5 hz2 ⊢
  clear hsb
  have g5s : Blk w5 sb 1 18 (fun j => sigV (q : Int) (fun _ => 0#64) none 0 0 (1 + j)) := by
    have := g5.sub 1 18 (by omega)
    rwa [Nat.zero_add] at this
  obtain ⟨Y6, hs6, hset6⟩ := run_storeN (P := Try.prog) g5s (v := wrdV f) (fun _ _ => rfl) arrW_size
  have g6 := sig_chain g5 hset6
  have ne : ∀ b, b < sb → b ≠ sb := fun b h => Nat.ne_of_lt h
  have s6 : Y6.cell? ⟨w.heap.size, 0, none⟩ = some (.int .u64 (num seed)) := (hset6.cell _ (fun e => absurd e (ne w.heap.size (by omega)))).trans s5
  have q6 : Y6.cell? ⟨w.heap.size + 1, 0, none⟩ = some (.int .i64 (q : Int)) := (hset6.cell _ (fun e => absurd e (ne (w.heap.size + 1) (by omega)))).trans q5
  have fq6 : Y6.frozen? ⟨w.heap.size + 1, 0, none⟩ = false := (hset6.frozen _).trans fq5
  have e6 : Blk Y6 (w.heap.size + 1 + 1) 0 20 zeroS := hset6.other (.inl (ne (w.heap.size + 1 + 1) (by omega))) e5
  replace hB := hset6.below _ _ (by omega) hB
  have hz6 : sb < Y6.heap.size := by have := hset6.size; omega
  clear s5 q5 fq5 e5 g5 g5s hset6 ne
  gi_wp2_with (first | (refine wpListIn_storeN rfl rfl _ _ _ rfl (b := sb) (q := 1) rfl hs6 ?_) | (refine ⟨trivial, ?_⟩; gi_at_call 44; refine (callsIn_wide.2 (levels_any seed (h : Int) _)).mono ?_; rintro e w7 ⟨rfl, rfl⟩))
  have hbx : ((Y6.alloc (.cells #[.int .u64 (num seed)] 22)).alloc (.cells #[.int .i64 (h : Int)] 3)).cell? ⟨Y6.heap.size + 1, 0, none⟩ = some (.int .i64 (h : Int)) := by go_simp
  have sbx : ((Y6.alloc (.cells #[.int .u64 (num seed)] 22)).alloc (.cells #[.int .i64 (h : Int)] 3)).cell? ⟨Y6.heap.size, 0, none⟩ = some (.int .u64 (num seed)) := by go_simp
  have al7 := al (al (Below.refl _ Y6) (.cells #[.int .u64 (num seed)] 22)) (.cells #[.int .i64 (h : Int)] 3)
  have i0 : SiI seed h q f sb (Y6.heap.size + 4) w 0 [w.heap.size + 1, sb] ((Y6.alloc (.cells #[.int .u64 (num seed)] 22)).alloc (.cells #[.int .i64 (h : Int)] 3)) := ⟨none, 0, rfl, OwnsW.nil _ _, g6.later al7, by rw [Nat.pow_zero, Nat.div_one]; exact later al7 q6, (Below.frozen al7 (World.block_lt_of_cell? _ _ q6)).trans fq6, e6.later al7, thru hB al7⟩
  clear s6 q6 fq6 e6 g6 hB al7 hmf
  refine wpIn_rangeV (α := Nat × Nat) (encs := rowE) (len := h + 1) (V := RowV seed h) (stops := True) (T := fun _ => False) (gf := 57) (lb := #[.pointer (some ⟨Y6.heap.size + 1, 0, none⟩), .pointer (some ⟨Y6.heap.size, 0, none⟩)]) rfl (enters_of Try.func57 (by kernel_rfl) rfl) (fun _ e => e.elim)
    (levels1_in (5 - 1) (by omega) _ _ seed h _ h6 hbx sbx) (fun k v A B h hl ht => rowV_loop k v A B h hl ht) (fun _ => rfl) (SiI seed h q f sb (Y6.heap.size + 4) w) (fun _ _ _ _ => False) [w.heap.size + 1, sb] (fun b hb => by simp at hb ⊢; omega) ?hI (fun _ _ _ _ _ h => h.elim) (.inl trivial) i0
    (fun v => { tmps := #[.int .u64 (num seed), .int .i64 (h : Int), .int .i64 (q : Int), .int .u64 (num d), .pointer (some ⟨w.heap.size, 0, none⟩), undef, .pointer (some ⟨w.heap.size + 1, 0, none⟩), undef, .pointer (some ⟨w.heap.size + 1 + 1, 0, none⟩), .int .i64 0, .pointer (some ⟨w1.heap.size, 0, none⟩), .pointer (some ⟨sb, 0, none⟩), .slice (some ⟨v.1, 0, none⟩) v.2 v.2, .int .i64 (h : Int), .int .i64 (q : Int), .bool true, .bool false, undef, .int .u64 (num d), arrA (digV d), .int .i64 (q : Int), .agg #[.int .i64 (q : Int), .int .u64 0, .int .u64 0, .int .u64 0, .int .u64 0, .int .u64 0, .int .u64 0, .int .u64 0, .int .u64 0, .int .u64 0, .int .u64 0, .int .u64 0, .int .u64 0, .int .u64 0, .int .u64 0, .int .u64 0, .int .u64 0, .int .u64 0, .int .u64 0, .slice none 0 0], .func (.func 45) #[] #[.pointer (some ⟨w1.heap.size, 0, none⟩), .pointer (some ⟨w.heap.size, 0, none⟩), .pointer (some ⟨w.heap.size + 1, 0, none⟩)], arrA (wrdV f), .pointer (some ⟨sb, 1, none⟩), .int .u64 (num seed), .int .i64 (h : Int), .func (.func 57) #[] #[.pointer (some ⟨Y6.heap.size + 1, 0, none⟩), .pointer (some ⟨Y6.heap.size, 0, none⟩)], .slice (some ⟨v.1, 0, none⟩) v.2 v.2, undef, undef, undef, undef, undef, undef, undef, undef, undef, undef, undef, undef, undef, undef, undef, undef], defers := [] }) ?assign ?body ?done ?stop
  case hI =>
    intro k S A B h ht
    exact h.turn ht (by rintro b (h | rfl | rfl) <;> first | exact h.elim | (simp <;> omega))
  case assign =>
    intro x W K hK
    simp only [rowE]
    gi_wp2_with fail
    exact hK
  case body =>
    clear hbx sbx i0
    rintro k S v W hk hz hv ⟨x, c, rfl, ho, g, cq, fq, e0, hB⟩ hS
    have hz7 : Y6.heap.size + 4 ≤ W.heap.size := by simp at hz; omega
    obtain ⟨lk, hlk⟩ : ∃ l, (Sgn.path seed h q).take k = l := ⟨_, rfl⟩
    obtain ⟨qk, hqk⟩ : ∃ m, q / 2 ^ k = m := ⟨_, rfl⟩
    have hq2 : q / 2 ^ (k + 1) = qk / 2 := by rw [Nat.pow_succ, ← Nat.div_div_eq_div_mul, hqk]
    have hqq : ((qk / 2 : Nat) : Int) = (qk : Int) / 2 := by omega
    have HQ2 := Lib.hid hq2
    have HQQ := Lib.hid hqq
    rw [hlk] at ho g
    rw [hqk] at cq
    by_cases hkh : k < h
    · have hpt := path_take seed h q k hkh
      rw [hlk, hqk] at hpt
      obtain ⟨M, hM⟩ : ∃ M, 2 ^ (h - (k + 1)) = M := ⟨_, rfl⟩
      have hL : 2 ^ (h - k) = 2 * M := by rw [← hM, show h - k = (h - (k + 1)) + 1 by omega, Nat.pow_succ]; omega
      have hM32 : 1 ≤ M ∧ M ≤ 32 := by
        rw [← hM]
        exact ⟨Nat.one_le_two_pow, Nat.pow_le_pow_right (n := 2) (by decide) (show h - (k + 1) ≤ 5 by omega)⟩
      have hqM : qk < 2 * M := by
        rw [← hqk, ← hL]
        refine Nat.div_lt_of_lt_mul ?_
        rw [← Nat.pow_add, show k + (h - k) = h by omega]
        exact hq
      have hv2 := hv.1
      rw [hL] at hv2
      have hxo := sib_xor ⟨qk, by omega⟩
      simp only at hxo
      have hsl := sib_lt qk M hqM
      have cs := rowV_cell hv (Sgn.sib qk) (by rw [hL]; exact hsl)
      obtain ⟨sq, hsq⟩ : ∃ m, Sgn.sib qk = m := ⟨_, rfl⟩
      obtain ⟨nd, hnd⟩ : ∃ m, Sgn.node seed k (Sgn.sib qk) = m := ⟨_, rfl⟩
      rw [hnd] at cs hpt
      rw [hsq] at cs hxo hsl
      have hqk64 : qk < 64 := by omega
      have d1 : decide ((1 : Int) < (v.2 : Int)) = true := decide_eq_true (by omega)
      have d2 : decide ((sq : Int) < (v.2 : Int)) = true := decide_eq_true (by omega)
      have hsv : sq < v.2 := by omega
      obtain ⟨ln, hln⟩ : ∃ l, (Sgn.path seed h q).take (k + 1) = l := ⟨_, rfl⟩
      rw [hln] at hpt
      have HLN := Lib.hid hln
      have HPT := Lib.hid hpt
      clear hln
      have hlk6 : lk.length ≤ 6 := by rw [← hlk]; simp [Sgn.path_length]; omega
      have c19 : W.cell? ⟨sb, 19, none⟩ = some (.slice x lk.length c) := (g.at 19 (by omega)).1
      have f19 := (g.at 19 (by omega)).2
      have hvb : v.1 < W.heap.size := World.block_lt_of_cell? _ _ cs
      clear hpt hlk hqk hq2 hqq hM hL hM32 hqM hsq hnd hv
      gi_wp2_with fail
      refine wpIn_region_schedB (B := sb) (fun X => X.cell? ⟨sb, 19, none⟩ = some (.slice x lk.length c) ∧ X.cell? ⟨v.1, sq, none⟩ = some (.int .u64 (num nd)) ∧ X.cell? ⟨w.heap.size + 1, 0, none⟩ = some (.int .i64 (qk : Int)) ∧ X.frozen? ⟨sb, 19, none⟩ = false ∧ OwnsW (Y6.heap.size + 4) X x c lk ∧ Turns (fun _ => False) W X ∧ Y6.heap.size + 4 ≤ X.heap.size) (.two [0, 2, 3, 4, 5] 1 (.one [] 6 (.one [] 7 (.one [] 8 (.one [9] 10 (.done []))))) 6 (.two [] 1 (.one [] 7 (.one [] 8 (.one [9] 10 (.done [])))) 7 (.one [] 1 (.one [] 8 (.one [9] 10 (.done [])))))) (by kernel_rfl) (by kernel_rfl) (fun ⟨_, _, h⟩ => h) (fun _ _ _ _ _ h => h) ⟨c19, cs, cq, f19, ho.turn ((Turns.refl (fun _ => False) W).drew) (fun _ _ e => e), (Turns.refl _ _).drew, hz7⟩ ?_
      clear c19 cs f19 ho
      rintro X ⟨c19, cs, cqX, f19, ho, ht, hzX⟩
      rw [wpSchedB]
      simp only [pick, List.map_cons, List.map_nil, Array.getD_eq_getD_getElem?, List.getElem?_toArray, List.getElem?_cons_succ, List.getElem?_cons_zero, Option.getD_some]
      have kq := plusB_cell (B := sb) cqX (by simp <;> omega)
      repeat (first | go_big_quiet_step (fail) | quiet_step (fail))
      refine wpQuiet_nil ?_
      clear kq
      refine ⟨?_, ?_⟩
      · refine heavyB_want (by rfl) (fun K' hK' => ?_)
        go_simp
        refine hK' _ _ (Below.refl _ _) ?_
        clear hK' K'
        try simp only [Act.put, List.setIfInBounds_toArray, List.set_cons_zero, List.set_cons_succ]
        rw [wpSchedB]
        simp only [pick, List.map_nil, Array.getD_eq_getD_getElem?, List.getElem?_toArray, List.getElem?_cons_succ, List.getElem?_cons_zero, Option.getD_some]
        refine wpQuiet_nil ?_
        refine heavyB_want (by rfl) (fun K' hK' => ?_)
        go_simp
        refine hK' _ _ (Below.refl _ _) ?_
        clear hK' K'
        try simp only [Act.put, List.setIfInBounds_toArray, List.set_cons_zero, List.set_cons_succ]
        rw [wpSchedB]
        simp only [pick, List.map_nil, Array.getD_eq_getD_getElem?, List.getElem?_toArray, List.getElem?_cons_succ, List.getElem?_cons_zero, Option.getD_some]
        refine wpQuiet_nil ?_
        refine heavyB_want (by rfl) (fun K' hK' => ?_)
        go_simp
        refine hK' _ _ ((Below.refl _ _).alloc (by omega) _) ?_
        clear hK' K'
        have hq1 := al (Below.refl _ X) (.cells #[.int .u64 (num nd)] 22)
        have ny : (X.alloc (.cells #[.int .u64 (num nd)] 22)).cell? ⟨X.heap.size, 0, none⟩ = some (.int .u64 (num nd)) := by go_simp
        have c19' := later hq1 c19
        have f19' := (Below.frozen hq1 (World.block_lt_of_cell? _ _ c19)).trans f19
        have ho1 := ho.turn ((Turns.refl (fun _ => False) X).alloc (.cells #[.int .u64 (num nd)] 22)) (fun _ _ e => e)
        have ht1 := ht.alloc (.cells #[.int .u64 (num nd)] 22)
        have hz1' : X.heap.size < (X.alloc (.cells #[.int .u64 (num nd)] 22)).heap.size := by simp
        obtain ⟨X1, hX1⟩ : ∃ Z : World, X.alloc (.cells #[.int .u64 (num nd)] 22) = Z := ⟨_, rfl⟩
        rw [hX1] at ny c19' f19' ho1 ht1 hz1'
        rw [hX1]
        clear hX1 hq1 c19 f19
        try simp only [Act.put, List.setIfInBounds_toArray, List.set_cons_zero, List.set_cons_succ]
        rw [wpSchedB]
        simp only [pick, List.map_nil, Array.getD_eq_getD_getElem?, List.getElem?_toArray, List.getElem?_cons_succ, List.getElem?_cons_zero, Option.getD_some]
        refine wpQuiet_nil ?_
        refine heavyB_want (by rfl) (fun K' hK' => ?_)
        refine wp_appWX _ _ rfl (B := Y6.heap.size + 4) (l := lk) (cap := c) (xa := x) ho1 rfl (ad := ⟨X.heap.size, 0, none⟩) (u := nd) rfl ny (by omega) (by omega) (fun x' c' X2 h1 h2 h3 h4 => hK' _ _ (h2.mono (by omega)) ?_)
        clear hK' K'
        rw [HPT.out] at h1 ⊢
        have c20 := later_lt h2 (a := ⟨sb, 19, none⟩) (by simp <;> omega) c19'
        have f20 := (h2.frozen (p := ⟨sb, 19, none⟩) (by simp <;> omega)).trans f19'
        try simp only [Act.put, List.setIfInBounds_toArray, List.set_cons_zero, List.set_cons_succ]
        rw [wpSchedB]
        simp only [pick, List.map_cons, List.map_nil, Array.getD_eq_getD_getElem?, List.getElem?_toArray, List.getElem?_cons_succ, List.getElem?_cons_zero, Option.getD_some]
        repeat (first | go_big_quiet_step (fail) | quiet_step (fail))
        refine wpQuiet_nil ?_
        refine heavyB_want (by rfl) (fun K' hK' => ?_)
        go_simp
        refine hK' _ _ ((Below.refl _ _).setCell (p := ⟨sb, 19, none⟩) (Nat.le_refl _) _) ?_
        clear hK' K'
        try simp only [Act.put, List.setIfInBounds_toArray, List.set_cons_zero, List.set_cons_succ]
        rw [wpSchedB]
        simp only [List.map_nil]
        refine wpQuiet_nil ?_
        have hq2 := (ht1.below hz7 (fun _ _ e => e)).trans h2
        have g2 := g.low hq2 (by omega)
        have e2 := e0.low hq2 (by omega)
        have cq2 := (hq2.cell (p := ⟨w.heap.size + 1, 0, none⟩) (by simp <;> omega)).trans cq
        have fq2 := (hq2.frozen (p := ⟨w.heap.size + 1, 0, none⟩) (by simp <;> omega)).trans fq
        have hB2 := hB.trans (hq2.mono (by omega))
        have hnq : ¬ w.heap.size + 1 = sb := by omega
        have tt := (ht1.mono (T' := fun b => b ∈ (w.heap.size + 1) :: sb :: rowS x) (fun _ _ e => e.elim)).trans (h3.mono (fun b _ hr => by simp [rowS_mem hr]))
        have hzz : W.heap.size ≤ X1.heap.size := ht1.size
        have hz8 : X1.heap.size ≤ X2.heap.size := h2.size
        clear hq2 h2 h3 ht1 ho1 g e0 cq fq hB c20 f20 c19' f19' ny cqX cs
        gi_wp2_with fail
        refine ⟨(w.heap.size + 1) :: sb :: rowS x', fun b hb => ?_, (tt.setCell (p := ⟨sb, 19, none⟩) (fun _ => by simp) _).setCell (p := ⟨w.heap.size + 1, 0, none⟩) (fun _ => by simp) _, x', c', rfl, by rw [HLN.out]; exact h1.turn (((Turns.refl (fun b => b = sb ∨ b = w.heap.size + 1) X2).setCell (p := ⟨sb, 19, none⟩) (fun _ => .inl rfl) _).setCell (p := ⟨w.heap.size + 1, 0, none⟩) (fun _ => .inr rfl) _) (fun b hb e => by have h0 := (h1.low b hb).1; have e' : b = sb ∨ b = w.heap.size + 1 := e; omega), by rw [HLN.out]; exact (sig_path g2 _ _ _).other (p := ⟨w.heap.size + 1, 0, none⟩) hnq _, ?_, by rw [World.frozen?_setCell, World.frozen?_setCell]; exact fq2, (e2.other (p := ⟨sb, 19, none⟩) (show sb ≠ w.heap.size + 1 + 1 by omega) _).other (p := ⟨w.heap.size + 1, 0, none⟩) (show w.heap.size + 1 ≠ w.heap.size + 1 + 1 by omega) _, (hB2.setCell (p := ⟨sb, 19, none⟩) (by simp <;> omega) _).setCell (p := ⟨w.heap.size + 1, 0, none⟩) (by simp) _⟩
        · have hb' : b = w.heap.size + 1 ∨ b = sb ∨ b ∈ rowS x' := by simpa using hb
          rcases hb' with hb' | hb' | hb'
          · have h0 := hS (w.heap.size + 1) (by simp)
            exact ⟨by simp <;> omega, .inl (by simp [hb'])⟩
          · have h0 := hS sb (by simp)
            exact ⟨by simp <;> omega, .inl (by simp [hb'])⟩
          · have h0 := h1.low b (rowS_of hb')
            exact ⟨by simpa using h0.2, (h4 b (rowS_of hb')).imp (fun h => by simp [rowS_mem h]) (fun h => by omega)⟩
        · rw [HQ2.out, HQQ.out]
          go_simp
          all_goals exact IntWalk.wrap64_in _ (by omega)
      · refine heavyB_want (by rfl) (fun K' hK' => ?_)
        go_simp
        refine hK' _ _ (Below.refl _ _) ?_
        clear hK' K'
        try simp only [Act.put, List.setIfInBounds_toArray, List.set_cons_zero, List.set_cons_succ]
        rw [wpSchedB]
        simp only [pick, List.map_nil, Array.getD_eq_getD_getElem?, List.getElem?_toArray, List.getElem?_cons_succ, List.getElem?_cons_zero, Option.getD_some]
        refine wpQuiet_nil ?_
        refine ⟨?_, ?_⟩
        · refine heavyB_want (by rfl) (fun K' hK' => ?_)
          go_simp
          refine hK' _ _ (Below.refl _ _) ?_
          clear hK' K'
          try simp only [Act.put, List.setIfInBounds_toArray, List.set_cons_zero, List.set_cons_succ]
          rw [wpSchedB]
          simp only [pick, List.map_nil, Array.getD_eq_getD_getElem?, List.getElem?_toArray, List.getElem?_cons_succ, List.getElem?_cons_zero, Option.getD_some]
          refine wpQuiet_nil ?_
          refine heavyB_want (by rfl) (fun K' hK' => ?_)
          go_simp
          refine hK' _ _ ((Below.refl _ _).alloc (by omega) _) ?_
          clear hK' K'
          have hq1 := al (Below.refl _ X) (.cells #[.int .u64 (num nd)] 22)
          have ny : (X.alloc (.cells #[.int .u64 (num nd)] 22)).cell? ⟨X.heap.size, 0, none⟩ = some (.int .u64 (num nd)) := by go_simp
          have c19' := later hq1 c19
          have f19' := (Below.frozen hq1 (World.block_lt_of_cell? _ _ c19)).trans f19
          have ho1 := ho.turn ((Turns.refl (fun _ => False) X).alloc (.cells #[.int .u64 (num nd)] 22)) (fun _ _ e => e)
          have ht1 := ht.alloc (.cells #[.int .u64 (num nd)] 22)
          have hz1' : X.heap.size < (X.alloc (.cells #[.int .u64 (num nd)] 22)).heap.size := by simp
          obtain ⟨X1, hX1⟩ : ∃ Z : World, X.alloc (.cells #[.int .u64 (num nd)] 22) = Z := ⟨_, rfl⟩
          rw [hX1] at ny c19' f19' ho1 ht1 hz1'
          rw [hX1]
          clear hX1 hq1 c19 f19
          try simp only [Act.put, List.setIfInBounds_toArray, List.set_cons_zero, List.set_cons_succ]
          rw [wpSchedB]
          simp only [pick, List.map_nil, Array.getD_eq_getD_getElem?, List.getElem?_toArray, List.getElem?_cons_succ, List.getElem?_cons_zero, Option.getD_some]
          refine wpQuiet_nil ?_
          refine heavyB_want (by rfl) (fun K' hK' => ?_)
          refine wp_appWX _ _ rfl (B := Y6.heap.size + 4) (l := lk) (cap := c) (xa := x) ho1 rfl (ad := ⟨X.heap.size, 0, none⟩) (u := nd) rfl ny (by omega) (by omega) (fun x' c' X2 h1 h2 h3 h4 => hK' _ _ (h2.mono (by omega)) ?_)
          clear hK' K'
          rw [HPT.out] at h1 ⊢
          have c20 := later_lt h2 (a := ⟨sb, 19, none⟩) (by simp <;> omega) c19'
          have f20 := (h2.frozen (p := ⟨sb, 19, none⟩) (by simp <;> omega)).trans f19'
          try simp only [Act.put, List.setIfInBounds_toArray, List.set_cons_zero, List.set_cons_succ]
          rw [wpSchedB]
          simp only [pick, List.map_cons, List.map_nil, Array.getD_eq_getD_getElem?, List.getElem?_toArray, List.getElem?_cons_succ, List.getElem?_cons_zero, Option.getD_some]
          repeat (first | go_big_quiet_step (fail) | quiet_step (fail))
          refine wpQuiet_nil ?_
          refine heavyB_want (by rfl) (fun K' hK' => ?_)
          go_simp
          refine hK' _ _ ((Below.refl _ _).setCell (p := ⟨sb, 19, none⟩) (Nat.le_refl _) _) ?_
          clear hK' K'
          try simp only [Act.put, List.setIfInBounds_toArray, List.set_cons_zero, List.set_cons_succ]
          rw [wpSchedB]
          simp only [List.map_nil]
          refine wpQuiet_nil ?_
          have hq2 := (ht1.below hz7 (fun _ _ e => e)).trans h2
          have g2 := g.low hq2 (by omega)
          have e2 := e0.low hq2 (by omega)
          have cq2 := (hq2.cell (p := ⟨w.heap.size + 1, 0, none⟩) (by simp <;> omega)).trans cq
          have fq2 := (hq2.frozen (p := ⟨w.heap.size + 1, 0, none⟩) (by simp <;> omega)).trans fq
          have hB2 := hB.trans (hq2.mono (by omega))
          have hnq : ¬ w.heap.size + 1 = sb := by omega
          have tt := (ht1.mono (T' := fun b => b ∈ (w.heap.size + 1) :: sb :: rowS x) (fun _ _ e => e.elim)).trans (h3.mono (fun b _ hr => by simp [rowS_mem hr]))
          have hzz : W.heap.size ≤ X1.heap.size := ht1.size
          have hz8 : X1.heap.size ≤ X2.heap.size := h2.size
          clear hq2 h2 h3 ht1 ho1 g e0 cq fq hB c20 f20 c19' f19' ny cqX cs
          gi_wp2_with fail
          refine ⟨(w.heap.size + 1) :: sb :: rowS x', fun b hb => ?_, (tt.setCell (p := ⟨sb, 19, none⟩) (fun _ => by simp) _).setCell (p := ⟨w.heap.size + 1, 0, none⟩) (fun _ => by simp) _, x', c', rfl, by rw [HLN.out]; exact h1.turn (((Turns.refl (fun b => b = sb ∨ b = w.heap.size + 1) X2).setCell (p := ⟨sb, 19, none⟩) (fun _ => .inl rfl) _).setCell (p := ⟨w.heap.size + 1, 0, none⟩) (fun _ => .inr rfl) _) (fun b hb e => by have h0 := (h1.low b hb).1; have e' : b = sb ∨ b = w.heap.size + 1 := e; omega), by rw [HLN.out]; exact (sig_path g2 _ _ _).other (p := ⟨w.heap.size + 1, 0, none⟩) hnq _, ?_, by rw [World.frozen?_setCell, World.frozen?_setCell]; exact fq2, (e2.other (p := ⟨sb, 19, none⟩) (show sb ≠ w.heap.size + 1 + 1 by omega) _).other (p := ⟨w.heap.size + 1, 0, none⟩) (show w.heap.size + 1 ≠ w.heap.size + 1 + 1 by omega) _, (hB2.setCell (p := ⟨sb, 19, none⟩) (by simp <;> omega) _).setCell (p := ⟨w.heap.size + 1, 0, none⟩) (by simp) _⟩
          · have hb' : b = w.heap.size + 1 ∨ b = sb ∨ b ∈ rowS x' := by simpa using hb
            rcases hb' with hb' | hb' | hb'
            · have h0 := hS (w.heap.size + 1) (by simp)
              exact ⟨by simp <;> omega, .inl (by simp [hb'])⟩
            · have h0 := hS sb (by simp)
              exact ⟨by simp <;> omega, .inl (by simp [hb'])⟩
            · have h0 := h1.low b (rowS_of hb')
              exact ⟨by simpa using h0.2, (h4 b (rowS_of hb')).imp (fun h => by simp [rowS_mem h]) (fun h => by omega)⟩
          · rw [HQ2.out, HQQ.out]
            go_simp
            all_goals exact IntWalk.wrap64_in _ (by omega)
        · refine heavyB_want (by rfl) (fun K' hK' => ?_)
          go_simp
          refine hK' _ _ ((Below.refl _ _).alloc (by omega) _) ?_
          clear hK' K'
          have hq1 := al (Below.refl _ X) (.cells #[.int .u64 (num nd)] 22)
          have ny : (X.alloc (.cells #[.int .u64 (num nd)] 22)).cell? ⟨X.heap.size, 0, none⟩ = some (.int .u64 (num nd)) := by go_simp
          have c19' := later hq1 c19
          have f19' := (Below.frozen hq1 (World.block_lt_of_cell? _ _ c19)).trans f19
          have ho1 := ho.turn ((Turns.refl (fun _ => False) X).alloc (.cells #[.int .u64 (num nd)] 22)) (fun _ _ e => e)
          have ht1 := ht.alloc (.cells #[.int .u64 (num nd)] 22)
          have hz1' : X.heap.size < (X.alloc (.cells #[.int .u64 (num nd)] 22)).heap.size := by simp
          obtain ⟨X1, hX1⟩ : ∃ Z : World, X.alloc (.cells #[.int .u64 (num nd)] 22) = Z := ⟨_, rfl⟩
          rw [hX1] at ny c19' f19' ho1 ht1 hz1'
          rw [hX1]
          clear hX1 hq1 c19 f19
          try simp only [Act.put, List.setIfInBounds_toArray, List.set_cons_zero, List.set_cons_succ]
          rw [wpSchedB]
          simp only [pick, List.map_nil, Array.getD_eq_getD_getElem?, List.getElem?_toArray, List.getElem?_cons_succ, List.getElem?_cons_zero, Option.getD_some]
          refine wpQuiet_nil ?_
          refine heavyB_want (by rfl) (fun K' hK' => ?_)
          go_simp
          refine hK' _ _ (Below.refl _ _) ?_
          clear hK' K'
          try simp only [Act.put, List.setIfInBounds_toArray, List.set_cons_zero, List.set_cons_succ]
          rw [wpSchedB]
          simp only [pick, List.map_nil, Array.getD_eq_getD_getElem?, List.getElem?_toArray, List.getElem?_cons_succ, List.getElem?_cons_zero, Option.getD_some]
          refine wpQuiet_nil ?_
          refine heavyB_want (by rfl) (fun K' hK' => ?_)
          refine wp_appWX _ _ rfl (B := Y6.heap.size + 4) (l := lk) (cap := c) (xa := x) ho1 rfl (ad := ⟨X.heap.size, 0, none⟩) (u := nd) rfl ny (by omega) (by omega) (fun x' c' X2 h1 h2 h3 h4 => hK' _ _ (h2.mono (by omega)) ?_)
          clear hK' K'
          rw [HPT.out] at h1 ⊢
          have c20 := later_lt h2 (a := ⟨sb, 19, none⟩) (by simp <;> omega) c19'
          have f20 := (h2.frozen (p := ⟨sb, 19, none⟩) (by simp <;> omega)).trans f19'
          try simp only [Act.put, List.setIfInBounds_toArray, List.set_cons_zero, List.set_cons_succ]
          rw [wpSchedB]
          simp only [pick, List.map_cons, List.map_nil, Array.getD_eq_getD_getElem?, List.getElem?_toArray, List.getElem?_cons_succ, List.getElem?_cons_zero, Option.getD_some]
          repeat (first | go_big_quiet_step (fail) | quiet_step (fail))
          refine wpQuiet_nil ?_
          refine heavyB_want (by rfl) (fun K' hK' => ?_)
          go_simp
          refine hK' _ _ ((Below.refl _ _).setCell (p := ⟨sb, 19, none⟩) (Nat.le_refl _) _) ?_
          clear hK' K'
          try simp only [Act.put, List.setIfInBounds_toArray, List.set_cons_zero, List.set_cons_succ]
          rw [wpSchedB]
          simp only [List.map_nil]
          refine wpQuiet_nil ?_
          have hq2 := (ht1.below hz7 (fun _ _ e => e)).trans h2
          have g2 := g.low hq2 (by omega)
          have e2 := e0.low hq2 (by omega)
          have cq2 := (hq2.cell (p := ⟨w.heap.size + 1, 0, none⟩) (by simp <;> omega)).trans cq
          have fq2 := (hq2.frozen (p := ⟨w.heap.size + 1, 0, none⟩) (by simp <;> omega)).trans fq
          have hB2 := hB.trans (hq2.mono (by omega))
          have hnq : ¬ w.heap.size + 1 = sb := by omega
          have tt := (ht1.mono (T' := fun b => b ∈ (w.heap.size + 1) :: sb :: rowS x) (fun _ _ e => e.elim)).trans (h3.mono (fun b _ hr => by simp [rowS_mem hr]))
          have hzz : W.heap.size ≤ X1.heap.size := ht1.size
          have hz8 : X1.heap.size ≤ X2.heap.size := h2.size
          clear hq2 h2 h3 ht1 ho1 g e0 cq fq hB c20 f20 c19' f19' ny cqX cs
          gi_wp2_with fail
          refine ⟨(w.heap.size + 1) :: sb :: rowS x', fun b hb => ?_, (tt.setCell (p := ⟨sb, 19, none⟩) (fun _ => by simp) _).setCell (p := ⟨w.heap.size + 1, 0, none⟩) (fun _ => by simp) _, x', c', rfl, by rw [HLN.out]; exact h1.turn (((Turns.refl (fun b => b = sb ∨ b = w.heap.size + 1) X2).setCell (p := ⟨sb, 19, none⟩) (fun _ => .inl rfl) _).setCell (p := ⟨w.heap.size + 1, 0, none⟩) (fun _ => .inr rfl) _) (fun b hb e => by have h0 := (h1.low b hb).1; have e' : b = sb ∨ b = w.heap.size + 1 := e; omega), by rw [HLN.out]; exact (sig_path g2 _ _ _).other (p := ⟨w.heap.size + 1, 0, none⟩) hnq _, ?_, by rw [World.frozen?_setCell, World.frozen?_setCell]; exact fq2, (e2.other (p := ⟨sb, 19, none⟩) (show sb ≠ w.heap.size + 1 + 1 by omega) _).other (p := ⟨w.heap.size + 1, 0, none⟩) (show w.heap.size + 1 ≠ w.heap.size + 1 + 1 by omega) _, (hB2.setCell (p := ⟨sb, 19, none⟩) (by simp <;> omega) _).setCell (p := ⟨w.heap.size + 1, 0, none⟩) (by simp) _⟩
          · have hb' : b = w.heap.size + 1 ∨ b = sb ∨ b ∈ rowS x' := by simpa using hb
            rcases hb' with hb' | hb' | hb'
            · have h0 := hS (w.heap.size + 1) (by simp)
              exact ⟨by simp <;> omega, .inl (by simp [hb'])⟩
            · have h0 := hS sb (by simp)
              exact ⟨by simp <;> omega, .inl (by simp [hb'])⟩
            · have h0 := h1.low b (rowS_of hb')
              exact ⟨by simpa using h0.2, (h4 b (rowS_of hb')).imp (fun h => by simp [rowS_mem h]) (fun h => by omega)⟩
          · rw [HQ2.out, HQQ.out]
            go_simp
            all_goals exact IntWalk.wrap64_in _ (by omega)
    · obtain rfl : k = h := by omega
      have hv2 := hv.1
      rw [Nat.sub_self, Nat.pow_zero] at hv2
      have hlen := Sgn.path_length seed k q
      have HLN := Lib.hid (show (Sgn.path seed k q).take (k + 1) = lk by rw [List.take_of_length_le (by omega), ← hlk, List.take_of_length_le (by omega)])
      have hq0 : qk = 0 := by rw [← hqk]; exact Nat.div_eq_of_lt hq
      have d1 : decide ((1 : Int) < (v.2 : Int)) = false := decide_eq_false (by omega)
      have hnq : w.heap.size + 1 ≠ sb := by omega
      subst hq0
      clear hlk hqk hq2 hqq hlen hv hv2
      dsimp only
      gi_wp2_with fail
      exact ⟨_, fun b hb => ⟨by have := hS b hb; simpa using this, .inl hb⟩, (Turns.refl _ W).setCell (fun _ => by simp) _, x, c, rfl, by rw [HLN.out]; exact ho.turn ((Turns.refl (fun b => b = w.heap.size + 1) W).setCell (p := ⟨w.heap.size + 1, 0, none⟩) (fun _ => rfl) _) (fun b hb e => by have h0 := (ho.low b hb).1; have e' : b = w.heap.size + 1 := e; omega), by rw [HLN.out]; exact g.other (p := ⟨w.heap.size + 1, 0, none⟩) hnq _, by rw [HQ2.out]; go_simp, by rw [World.frozen?_setCell]; exact fq, e0.other (p := ⟨w.heap.size + 1, 0, none⟩) (show w.heap.size + 1 ≠ w.heap.size + 1 + 1 by omega) _, hB.setCell (p := ⟨w.heap.size + 1, 0, none⟩) (by simp) _⟩
  case done =>
    clear hbx sbx i0
    rintro S W hz ⟨x, c, rfl, ho, g, cq, fq, e0, hB⟩ hK
    have hz7 : Y6.heap.size + 2 < W.heap.size := by simpa using hz
    have hpl : (Sgn.path seed h q).take (h + 1) = Sgn.path seed h q := List.take_of_length_le (by rw [Sgn.path_length]; omega)
    rw [hpl] at ho g
    rw [Sgn.path_length] at g
    have hl := run_loadS g
    obtain ⟨W2, hs, hset⟩ := run_storeS e0 (q : Int) f x h c
    have e2 := hset.blk
    have htt := hset.turns (fun b => b = w.heap.size + 1 + 1) W (fun _ => rfl) (Turns.refl _ _)
    have ho2 := ho.turn htt (fun b hb e => by have h0 := (ho.low b hb).1; have e' : b = w.heap.size + 1 + 1 := e; omega)
    have hB2 := hset.below w.heap.size w (by omega) hB
    have hK2 := htt.obj (by simp <;> omega) hK
    have hz9 : W2.heap.size = W.heap.size := hset.size
    rw [World.size_alloc, World.size_alloc] at hK2
    clear hset htt ho hB g e0 cq fq hpl hK
    dsimp only
    gi_wp2_with (first | (refine wpListIn_loadN rfl _ _ rfl (b := sb) (q := 0) rfl hl ?_) | (refine wpListIn_storeN rfl rfl _ _ _ rfl (b := w.heap.size + 1 + 1) (q := 0) rfl hs ?_))
    refine ret_mark (.tuple #[aggN 20 (sigV (q : Int) f x h c), .int .i64 0]) hK2 (fun W3 ht3 => ?_)
    have hl3 := run_loadS (e2.turn ht3 (by simp <;> omega))
    refine ⟨?_, x, c, by rw [HF.out], (ho2.turn ht3 (fun b hb e => by have := (ho2.low b hb).1; have e' : b = Y6.heap.size + 1 + 1 := e; omega)).weaken (by omega), hB2.trans (ht3.below hB2.size (fun i hi e => by have e' : i = Y6.heap.size + 1 + 1 := e; omega))⟩
    rw [results_cell_tmp rfl]
    simp [asAddr, Result.andThen]
    rw [hl3]
    try rfl
  case stop =>
    rintro c k S W hk hz h hK
    exact h.elim

end Go.Proofs.Ytjpicnfkmfjnoaa
