/- WALKS of the sampling layer: the chapter's examples. -/
import Derived.Test.YtmeaelahmajheaaWalksC
import Derived.Test.YtmeaelahmajheaaWalksD
namespace Go.Proofs.Ytmeaelahmajheaa
open Go.RowKit

def Aw (a : Option Addr → Nat → Value) (w : World) (e : Ending) (w' : World) : Prop := ∃ x cap, e = .returned (a x cap) ∧ Bts w' x [1, 2] ∧ Below w.heap.size w w'

theorem aw1 (y : Option Addr) (c : Nat) (w : World) (hy : Bts w y [1, 2]) :
    Calls Try.prog 9 #[.agg #[.string ⟨#[]⟩, .int .u8 1, .bool false, .int .i64 3, .int .i64 0, .int .i64 10], .agg #[.slice none 0 0, .int .i64 0, .bool false], .int .i64 5, .slice y 2 c] w (Aw (fun x cap => .tuple #[.agg #[.slice x 2 cap, .int .i64 5, .bool true], .int .i64 0]) w) :=
  (write_ok ⟨#[]⟩ 1 false 3 0 10 none [] 0 0 false 5 y [1, 2] c w (Bts.nil _ _) (by decide) hy (by decide) (by decide) (by decide) (by decide)).mono fun _ _ ⟨x, cap, h1, h2, h3⟩ => ⟨x, cap, h1, h2.bts, h3⟩

theorem aw2 (x : Option Addr) (cap : Nat) (w : World) (hx : Bts w x [1, 2]) :
    Calls Try.prog 10 #[.agg #[.string ⟨#[]⟩, .int .u8 1, .bool false, .int .i64 3, .int .i64 0, .int .i64 10], .agg #[.slice x 2 cap, .int .i64 5, .bool true], .int .i64 15] w (Aw (fun x cap => .tuple #[.slice x 2 cap, .bool true, .int .i64 0]) w) :=
  (read_ok ⟨#[]⟩ 1 false 3 0 10 x [1, 2] cap 5 15 w hx (by decide) (by decide)).mono fun _ _ ⟨x, cap, h1, h2, h3⟩ => ⟨x, cap, h1, h2.bts, h3⟩

theorem aw3 (x : Option Addr) (cap : Nat) (w : World) (hx : Bts w x [1, 2]) :
    Calls Try.prog 10 #[.agg #[.string ⟨#[]⟩, .int .u8 1, .bool false, .int .i64 3, .int .i64 0, .int .i64 10], .agg #[.slice x 2 cap, .int .i64 5, .bool true], .int .i64 16] w (Aw (fun x cap => .tuple #[.slice x 2 cap, .bool false, .int .i64 0]) w) :=
  (read_ok ⟨#[]⟩ 1 false 3 0 10 x [1, 2] cap 5 16 w hx (by decide) (by decide)).mono fun _ _ ⟨x, cap, h1, h2, h3⟩ => ⟨x, cap, h1, h2.bts, h3⟩

theorem aw4 (x : Option Addr) (cap : Nat) (y : Option Addr) (c : Nat) (w : World) (hx : Bts w x [1, 2]) (hy : Bts w y [1, 2, 3, 4]) :
    Calls Try.prog 9 #[.agg #[.string ⟨#[]⟩, .int .u8 1, .bool false, .int .i64 3, .int .i64 0, .int .i64 10], .agg #[.slice x 2 cap, .int .i64 5, .bool true], .int .i64 6, .slice y 4 c] w (Aw (fun x cap => .tuple #[.agg #[.slice x 2 cap, .int .i64 5, .bool true], .int .i64 3]) w) :=
  (write_long ⟨#[]⟩ 1 false 3 0 10 x [1, 2] cap 5 true 6 y [1, 2, 3, 4] c w hx (by decide) hy (by decide) (by decide) (by decide) (by decide)).mono fun _ _ ⟨x, cap, h1, h2, h3⟩ => ⟨x, cap, h1, h2.bts, h3⟩

theorem aw5 (x : Option Addr) (cap : Nat) (w : World) :
    Calls Try.prog 10 #[.agg #[.string ⟨#[]⟩, .int .u8 1, .bool false, .int .i64 3, .int .i64 0, .int .i64 10], .agg #[.slice x 2 cap, .int .i64 5, .bool true], .int .i64 4] w fun e w' => e = .returned (.tuple #[.slice none 0 0, .bool false, .int .i64 2]) ∧ Below w.heap.size w w' :=
  read_no ⟨#[]⟩ 1 false 3 0 10 x [1, 2] cap 5 true 4 w (by decide)

theorem aw6 (w : World) :
    Calls Try.prog 10 #[.agg #[.string ⟨#[]⟩, .int .u8 1, .bool false, .int .i64 3, .int .i64 0, .int .i64 10], .agg #[.slice none 0 0, .int .i64 0, .bool false], .int .i64 4] w fun e w' => e = .returned (.tuple #[.slice none 0 0, .bool false, .int .i64 6]) ∧ Below w.heap.size w w' :=
  read_none ⟨#[]⟩ 1 false 3 0 10 none [] 0 0 4 w (by decide)

theorem aw7 (x : Option Addr) (cap : Nat) (y : Option Addr) (c : Nat) (w : World) (hx : Bts w x [1, 2]) (hy : Bts w y [1, 2]) :
    Calls Try.prog 16 #[.agg #[.slice x 2 cap, .int .i64 5, .bool true], .agg #[.slice y 2 c, .int .i64 5, .bool true]] w fun e w' => e = .returned (.bool true) ∧ Below w.heap.size w w' :=
  same_any x [1, 2] cap 5 true y [1, 2] c 5 true w hx hy

set_option maxHeartbeats 2000000 in
theorem awake_any (w : World) : Calls Try.prog 8 #[] w fun e w' => e = .returned (.bool true) ∧ Below w.heap.size w w' := by
  go_enter Try.func8, Try.ntmps8
  go_wp2_with fail
  refine (aw1 _ _ _ ?_).mono ?_
  · exact .inr ⟨_, _, rfl, fun i hi => by match i, hi with | 0, _ => (go_simp; rfl) | 1, _ => (go_simp; rfl)⟩
  rintro e w1 ⟨x1, c1, rfl, hx1, hb⟩

  have g0 := later (a := ⟨w.heap.size, 0, none⟩) (v := .string ⟨#[]⟩) hb (by go_simp)
  have g1 := later (a := ⟨w.heap.size, 1, none⟩) (v := .int .u8 1) hb (by go_simp)
  have g2 := later (a := ⟨w.heap.size, 2, none⟩) (v := .bool false) hb (by go_simp)
  have g3 := later (a := ⟨w.heap.size, 3, none⟩) (v := .int .i64 3) hb (by go_simp)
  have g4 := later (a := ⟨w.heap.size, 4, none⟩) (v := .int .i64 0) hb (by go_simp)
  have g5 := later (a := ⟨w.heap.size, 5, none⟩) (v := .int .i64 10) hb (by go_simp)
  have hB := (((Below.refl _ w).alloc (Nat.le_refl _) _).alloc (by simp) _).trans (hb.mono (by simp <;> omega))
  have hs1 : w.heap.size < w1.heap.size := by have := hb.size; simp at this; omega
  clear hb
  go_wp2_with fail
  refine (aw2 _ _ _ (hx1.later ((Below.refl _ w1).alloc (Nat.le_refl _) _))).mono ?_
  rintro e w2 ⟨x2, c2, rfl, hx2, hb⟩
  have h0 := later (a := ⟨w.heap.size, 0, none⟩) (v := .string ⟨#[]⟩) hb (by go_simp)
  have h1 := later (a := ⟨w.heap.size, 1, none⟩) (v := .int .u8 1) hb (by go_simp)
  have h2 := later (a := ⟨w.heap.size, 2, none⟩) (v := .bool false) hb (by go_simp)
  have h3 := later (a := ⟨w.heap.size, 3, none⟩) (v := .int .i64 3) hb (by go_simp)
  have h4 := later (a := ⟨w.heap.size, 4, none⟩) (v := .int .i64 0) hb (by go_simp)
  have h5 := later (a := ⟨w.heap.size, 5, none⟩) (v := .int .i64 10) hb (by go_simp)
  have h6 := later (a := ⟨w1.heap.size, 0, none⟩) (v := .slice x1 2 c1) hb (by go_simp)
  have h7 := later (a := ⟨w1.heap.size, 1, none⟩) (v := .int .i64 5) hb (by go_simp)
  have h8 := later (a := ⟨w1.heap.size, 2, none⟩) (v := .bool true) hb (by go_simp)
  replace hB := (hB.alloc hB.size (.cells #[.slice x1 2 c1, .int .i64 5, .bool true] 26)).trans (hb.mono (by simp <;> omega))
  replace hx1 := (hx1.later ((Below.refl _ w1).alloc (Nat.le_refl _) _)).later hb
  have hs2 : w1.heap.size < w2.heap.size := by have := hb.size; simp at this; omega
  have hp2 : w.heap.size < w2.heap.size := by omega
  clear hb g0 g1 g2 g3 g4 g5
  go_wp2_with fail
  refine (aw3 _ _ _ hx1).mono ?_
  rintro e w3 ⟨x3, c3, rfl, hx3, hb⟩
  have g0 := later hb h0
  have g1 := later hb h1
  have g2 := later hb h2
  have g3 := later hb h3
  have g4 := later hb h4
  have g5 := later hb h5
  have g6 := later hb h6
  have g7 := later hb h7
  have g8 := later hb h8
  replace hB := hB.trans (hb.mono hB.size)
  replace hx1 := hx1.later hb
  replace hx2 := hx2.later hb
  have hs3 : w1.heap.size < w3.heap.size := by have := hb.size; omega
  have hp3 : w.heap.size < w3.heap.size := by omega
  clear hb h0 h1 h2 h3 h4 h5 h6 h7 h8 hs2
  go_wp2_with fail
  have hA := (Below.refl _ w3).alloc (Nat.le_refl _) (.cells #[.int .u8 1, .int .u8 2, .int .u8 3, .int .u8 4] 5)
  refine (aw4 _ _ _ _ _ (hx1.later hA) ?_).mono ?_
  · exact .inr ⟨_, _, rfl, fun i hi => by match i, hi with | 0, _ => (go_simp; rfl) | 1, _ => (go_simp; rfl) | 2, _ => (go_simp; rfl) | 3, _ => (go_simp; rfl)⟩
  rintro e w4 ⟨x4, c4, rfl, hx4, hb⟩
  replace hb := hA.trans (hb.mono (by simp))
  have h0 := later hb g0
  have h1 := later hb g1
  have h2 := later hb g2
  have h3 := later hb g3
  have h4 := later hb g4
  have h5 := later hb g5
  have h6 := later hb g6
  have h7 := later hb g7
  have h8 := later hb g8
  replace hB := hB.trans (hb.mono hB.size)
  replace hx1 := hx1.later hb
  replace hx2 := hx2.later hb
  replace hx3 := hx3.later hb
  have hs4 : w1.heap.size < w4.heap.size := by have := hb.size; omega
  have hp4 : w.heap.size < w4.heap.size := by omega
  clear hb hA g0 g1 g2 g3 g4 g5 g6 g7 g8 hs3
  go_wp2_with fail
  refine (aw5 _ _ _).mono ?_
  rintro e w5 ⟨rfl, hb⟩
  have hb5 := hb.size
  have t0 := later (a := ⟨w4.heap.size, 0, none⟩) (v := .slice x4 2 c4) hb (by go_simp)
  have t1 := later (a := ⟨w4.heap.size, 1, none⟩) (v := .int .i64 5) hb (by go_simp)
  have t2 := later (a := ⟨w4.heap.size, 2, none⟩) (v := .bool true) hb (by go_simp)
  have hA := (Below.refl _ w4).alloc (Nat.le_refl _) (.cells #[.slice x4 2 c4, .int .i64 5, .bool true] 26)
  replace hb := hA.trans (hb.mono (by simp))
  have g0 := later hb h0
  have g1 := later hb h1
  have g2 := later hb h2
  have g3 := later hb h3
  have g4 := later hb h4
  have g5 := later hb h5
  have g6 := later hb h6
  have g7 := later hb h7
  have g8 := later hb h8
  replace hB := hB.trans (hb.mono hB.size)
  replace hx1 := hx1.later hb
  replace hx2 := hx2.later hb
  replace hx3 := hx3.later hb
  replace hx4 := hx4.later hb
  have hs5 : w4.heap.size < w5.heap.size := by have := hb5; simp at this; omega
  have hp5 : w.heap.size < w5.heap.size := by omega
  have hq5 : w1.heap.size < w5.heap.size := by omega
  clear hb hb5 hA h0 h1 h2 h3 h4 h5 h6 h7 h8
  go_wp2_with fail
  refine (aw6 _).mono ?_
  rintro e w6 ⟨rfl, hb⟩
  have h0 := later hb g0
  have h1 := later hb g1
  have h2 := later hb g2
  have h3 := later hb g3
  have h4 := later hb g4
  have h5 := later hb g5
  have h6 := later hb g6
  have h7 := later hb g7
  have h8 := later hb g8
  have u0 := later hb t0
  have u1 := later hb t1
  have u2 := later hb t2
  replace hB := hB.trans (hb.mono hB.size)
  replace hx1 := hx1.later hb
  replace hx2 := hx2.later hb
  replace hx3 := hx3.later hb
  replace hx4 := hx4.later hb
  clear hb g0 g1 g2 g3 g4 g5 g6 g7 g8 t0 t1 t2
  have cv2 := run_conv (P := Try.prog) (src := 24) (dst := 9) Try.underlying24 Try.underlying5 Try.underlying9 hx2 c2
  have cv3 := run_conv (P := Try.prog) (src := 24) (dst := 9) Try.underlying24 Try.underlying5 Try.underlying9 hx3 c3
  simp only [List.length_cons, List.length_nil, Nat.zero_add, Nat.reduceAdd] at cv2 cv3
  go_wp2_with fail
  refine (aw7 _ _ _ _ _ hx1 hx4).mono ?_
  rintro e w7 ⟨rfl, hb⟩
  go_wp2_with fail
  go_ret
  exact ⟨rfl, hB.trans (hb.mono hB.size)⟩

end Go.Proofs.Ytmeaelahmajheaa
