/- WALKS of the sign layer: public, Public. -/
import Derived.Test.YtjpicnfkmfjnoaaSgnC
import Derived.Test.YtjpicnfkmfjnoaaWords64
import Derived.Shelf.Abstract
import Derived.Deep.RegionWith
namespace Go.Proofs.Ytjpicnfkmfjnoaa
open Go.RowKit

@[go_sem] theorem arrA_cells (v : Nat → Value) : (arrA v).cells = (arrL v).toArray := rfl
theorem run_indexW {W : World} (f : Nat → D64) (i : Nat) (hi : i < 18) : (Instr.index 31 (arrA (wrdV f)) (.int .i64 (i : Int))).run Try.prog W = .ok (.int .u64 (num (f i))) W := by
  obtain ⟨i0, h1, h2, h3, h4⟩ := info_parts infoWord
  have hu : Try.prog.underlying 22 = some (.int .u64) := by kernel_rfl
  have hd : (0 : Int) ≤ (i : Int) ∧ (i : Int) < 18 := by omega
  have hg := arrL_get (wrdV f) i hi
  simp [Instr.index, asIntOf, run_underlying arrW_underlying, arrA, hd, sizeOf, typeInfo, h1, h3, part, isAgg, run_underlying hu, hg, hi]
  rfl
theorem wpList_indexW {ops : Array Oper} {rest : List Oper} {o : Oper} {a : Act} {w : World} {Q : Exit → Act → World → Prop} (hg : o.guard = none) (p x : Operand) (ho : o.op = .index 31 p x) {f : Nat → D64} (hp : a.eval p = arrA (wrdV f)) (i : Nat) (hx : a.eval x = .int .i64 (i : Int)) (hi : i < 18)
    (h : wpList Try.prog ops Q rest (a.put o.dst (.int .u64 (num (f i)))) w) : wpList Try.prog ops Q (o :: rest) a w :=
  wpList_plain hg fun _ hK => by
    have hr := run_indexW (W := w) f i hi
    unfold Oper.wp
    simp [execOp, ho, hp, hx, hr, Result.andThen]
    exact hK _ _ h

def PuRel (f : Nat → D64) (sb : Nat) (w : World) (u8 : Value) (wr : World) : Prop :=
  ∃ i : Nat, i ≤ 18 ∧ u8 = .int .i64 (i : Int) ∧ Below w.heap.size w wr ∧ wr.cell? ⟨sb, 0, none⟩ = some (.int .u64 (num (Dig.addL Dig.start (Sgn.ends f i)))) ∧ wr.cell? ⟨sb, 1, none⟩ = some (.int .i64 ((8 * i : Nat) : Int)) ∧
    wr.frozen? ⟨sb, 0, none⟩ = false ∧ wr.frozen? ⟨sb, 1, none⟩ = false

set_option maxHeartbeats 1000000 in
theorem public_any (f : Nat → D64) (w : World) : Calls Try.prog 37 #[arrA (wrdV f)] w (NumOf (Sgn.pubE f) w) := by
  have HP : Hid (num (Dig.fin (Dig.addL Dig.start (Sgn.ends f 18)) 144) = num (Sgn.pubE f)) := by
    show _ = num (Dig.fin (Dig.addL Dig.start (Sgn.ends f 18)) ((Sgn.ends f 18).length : Int))
    rw [Sgn.ends_length]; rfl
  have hB := Below.refl w.heap.size w
  show Calls Try.prog 37 #[.agg (arrL (wrdV f)).toArray] w _
  go_enter Try.func37, Try.ntmps37
  go_wp2_with fail
  refine (new_any _).mono ?_
  rintro e w1 ⟨rfl, hb⟩
  have hA := (arr_new w (wrdV f) (arrL (wrdV f)).toArray 31 rfl).later hb
  replace hB := thru (al hB _) hb
  have hl1' := run_loadA (P := Try.prog) ((hA.later (al (Below.refl _ w1) (.cells #[.int .u64 (num Dig.start), .int .i64 0] 81)))) arrW_underlying arrW_size
  go_wp2_with (refine wpList_loadA rfl _ _ rfl (b := w.heap.size) rfl hl1' ?_)
  have hle := hB.size
  replace hB := al hB (.cells #[.int .u64 (num Dig.start), .int .i64 0] 81)
  have k0 : (w1.alloc (.cells #[.int .u64 (num Dig.start), .int .i64 0] 81)).cell? ⟨w1.heap.size, 0, none⟩ = some (.int .u64 (num Dig.start)) := by go_simp
  have k1 : (w1.alloc (.cells #[.int .u64 (num Dig.start), .int .i64 0] 81)).cell? ⟨w1.heap.size, 1, none⟩ = some (.int .i64 0) := by go_simp
  have z0 : (w1.alloc (.cells #[.int .u64 (num Dig.start), .int .i64 0] 81)).frozen? ⟨w1.heap.size, 0, none⟩ = false := by go_simp
  have z1 : (w1.alloc (.cells #[.int .u64 (num Dig.start), .int .i64 0] 81)).frozen? ⟨w1.heap.size, 1, none⟩ = false := by go_simp
  obtain ⟨sb, hsb⟩ : ∃ b, w1.heap.size = b := ⟨_, rfl⟩
  rw [hsb] at k0 k1 z0 z1 hle ⊢
  clear hsb hl1' hA hb
  go_loopw [8] (fun u8 wr => PuRel f sb w u8 wr) (fun u8 _ => 18 - (intOf u8).toNat)
  case atStart => exact ⟨0, by omega, rfl, hB, k0, k1, z0, z1⟩
  case round =>
    clear hB k0 k1 z0 z1
    obtain ⟨i, hi, rfl, hB, c0, c1, f0, f1⟩ := hrel
    by_cases hlt : i < 18
    · have hki : decide ((i : Int) < 18) = true := by simp; omega
      obtain ⟨x, hx⟩ : ∃ x, Dig.addL Dig.start (Sgn.ends f i) = x := ⟨_, rfl⟩
      obtain ⟨lx, hlx⟩ : ∃ l, Dig.bytes (f i) = l := ⟨_, rfl⟩
      have nx : lx.length = 8 := by rw [← hlx]; exact Dig.bytes_length _
      have HX : Hid (Dig.addL Dig.start (Sgn.ends f (i + 1)) = Dig.addL x lx) := by
        show Dig.addL Dig.start (Sgn.ends f i ++ Dig.bytes (f i)) = _
        rw [Dig.addL_append, hx, hlx]
      have cx := bytes_any (f i)
      rw [hlx] at cx
      rw [hx] at c0
      obtain ⟨n8, hn8⟩ : ∃ n, 8 * i = n := ⟨_, rfl⟩
      rw [hn8] at c1
      have HN := Lib.hid hn8
      have HL := Lib.hid nx
      have HW := Lib.hid (show wrap64 ((n8 : Int) + (lx.length : Int)) = ((8 * (i + 1) : Nat) : Int) by rw [IntWalk.wrap64_in _ (by omega)]; omega)
      have hlx9 : (lx.length : Int) ≤ 9223372036854775807 := by omega
      have hn9 : -9223372036854775808 ≤ (n8 : Int) ∧ (n8 : Int) ≤ 9223372036854775807 := by omega
      have HN9 := Lib.hid hn9
      have HL9 := Lib.hid hlx9
      have hsb := World.block_lt_of_cell? _ _ c0
      clear hx hlx nx hn8 hn9 hlx9
      go_wp2_with (refine wpList_indexW rfl _ _ rfl rfl i rfl hlt ?_)
      go_region_with (first | (go_at_call 34; refine (cx _).mono ?_; rintro e w2 ⟨b2, rfl, y2, hb2⟩; have d0 := later hb2 (a := ⟨sb, 0, none⟩) (v := .int .u64 (num x)) (by go_simp); have d1 := later hb2 (a := ⟨sb, 1, none⟩) (v := .int .i64 (n8 : Int)) (by go_simp); have q0 := (Below.frozen hb2 (p := ⟨sb, 0, none⟩) (by simp <;> omega)).trans (show _ = false by go_simp); have q1 := (Below.frozen hb2 (p := ⟨sb, 1, none⟩) (by simp <;> omega)).trans (show _ = false by go_simp)) | (go_at_call 53; refine (add_any x (n8 : Int) _ lx _ _ HN9.out HL9.out y2).mono ?_; rintro e w3 ⟨rfl, hb3⟩; have e0 := later hb3 d0; have e1 := later hb3 d1; have p0 := (Below.frozen hb3 (World.block_lt_of_cell? _ _ d0)).trans q0; have p1 := (Below.frozen hb3 (World.block_lt_of_cell? _ _ d1)).trans q1))
      all_goals (
        have hB3 := thru (thru hB.drew hb2) hb3
        rw [HW.out, ← HX.out]
        go_wp2_with fail
        refine ⟨⟨i + 1, by omega, by go_num, (hB3.setCell (p := ⟨sb, 0, none⟩) hle _).setCell (p := ⟨sb, 1, none⟩) hle _, by go_simp, by go_simp, by go_simp, by go_simp⟩, by simp [intOf]; omega⟩)
    · obtain rfl : i = 18 := by omega
      obtain ⟨x, hx⟩ : ∃ x, Dig.addL Dig.start (Sgn.ends f 18) = x := ⟨_, rfl⟩
      rw [hx] at c0 HP
      have c2 : wr.cell? ⟨sb, 1, none⟩ = some (.int .i64 144) := c1
      clear hx c1
      go_wp2_with fail
      refine (fin_any x 144 _).mono ?_
      rintro e w4 ⟨rfl, hb4⟩
      rw [HP.out]
      go_wp2_with fail
      go_ret
      exact ⟨rfl, thru hB hb4⟩

theorem Public_any (seed : D64) (q : Int) (w : World) : Calls Try.prog 15 #[.int .u64 (num seed), .int .i64 q] w (NumOf (Sgn.pub seed (u8z q) (u8z (q / 256))) w) := by
  have HE : Hid (Sgn.pubE (fun i => Sgn.val seed (u8z q) (u8z (q / 256)) i 15) = Sgn.pub seed (u8z q) (u8z (q / 256))) := rfl
  have hmf : ∀ (fn : Fn) (first cap : Array Value) (w : World), (Instr.makeFunc fn first cap).run Try.prog w = .ok (.func fn first cap) w := fun _ _ _ _ => rfl
  go_enter Try.func15, Try.ntmps15
  go_wp2_with fail
  have k0 : ((w.alloc (.cells #[.int .u64 (num seed)] 22)).alloc (.cells #[.int .i64 q] 3)).cell? ⟨w.heap.size, 0, none⟩ = some (.int .u64 (num seed)) := by go_simp
  have k1 : ((w.alloc (.cells #[.int .u64 (num seed)] 22)).alloc (.cells #[.int .i64 q] 3)).cell? ⟨w.heap.size + 1, 0, none⟩ = some (.int .i64 q) := by go_simp
  refine (values_any 39 #[.pointer (some ⟨w.heap.size, 0, none⟩), .pointer (some ⟨w.heap.size + 1, 0, none⟩)] (fun i => Sgn.val seed (u8z q) (u8z (q / 256)) i 15) _ (enters_of Try.func39 (by kernel_rfl) rfl) (fun i W hi hb => public1_any seed q _ _ i W hi (later hb k0) (later hb k1))).mono ?_
  rintro e w1 ⟨rfl, hb⟩
  clear k0 k1
  go_wp2_with fail
  refine (public_any _ _).mono ?_
  rintro e w2 ⟨rfl, hb2⟩
  rw [HE.out]
  go_wp2_with fail
  go_ret
  exact ⟨rfl, thru (thru (al (al (Below.refl _ w) _) _) hb) hb2⟩

end Go.Proofs.Ytjpicnfkmfjnoaa
