/- WALKS of the frame layer: Read, with that of the reference. -/
import Derived.Test.YtjnjjnkanbnliaaDoorFraE
namespace Go.Proofs.YtjnjjnkanbnliaaDoor
open Go.RowKit

def parseM : List UInt8 → Option (UInt8 × UInt8 × UInt8 × List UInt8)
  | a :: b :: d :: e0 :: r => if (((e0.toNat : Int) == (r.length : Int)) && vldF (a.toNat : Int) (b.toNat : Int) (d.toNat : Int) r.length) = true then some (a, b, d, r) else none
  | _ => none
theorem parse_short (l : List UInt8) (h : l.length < 4) : parseM l = none := by
  match l, h with
  | [], _ => rfl
  | [_], _ => rfl
  | [_, _], _ => rfl
  | [_, _, _], _ => rfl
  | _ :: _ :: _ :: _ :: _, h => simp at h; omega
theorem four_set {B g : Nat} {w V : World} (h : Below B w V) (hg : B ≤ g) (a b c d : Value) : Below B w ((((V.setCell ⟨g, 0, none⟩ a).setCell ⟨g, 1, none⟩ b).setCell ⟨g, 2, none⟩ c).setCell ⟨g, 3, none⟩ d) :=
  (((h.setCell (p := ⟨g, 0, none⟩) hg a).setCell (p := ⟨g, 1, none⟩) hg b).setCell (p := ⟨g, 2, none⟩) hg c).setCell (p := ⟨g, 3, none⟩) hg d
theorem four_turn (g : Nat) (V : World) (a b c d : Value) : Turns (fun k => k = g) V ((((V.setCell ⟨g, 0, none⟩ a).setCell ⟨g, 1, none⟩ b).setCell ⟨g, 2, none⟩ c).setCell ⟨g, 3, none⟩ d) :=
  ((((Turns.refl (fun k => k = g) V).setCell (p := ⟨g, 0, none⟩) (fun _ => rfl) a).setCell (p := ⟨g, 1, none⟩) (fun _ => rfl) b).setCell (p := ⟨g, 2, none⟩) (fun _ => rfl) c).setCell (p := ⟨g, 3, none⟩) (fun _ => rfl) d
theorem four_cells {g : Nat} {V : World} {x0 x1 x2 x3 : Value} (h0 : V.cell? ⟨g, 0, none⟩ = some x0) (h1 : V.cell? ⟨g, 1, none⟩ = some x1) (h2 : V.cell? ⟨g, 2, none⟩ = some x2) (h3 : V.cell? ⟨g, 3, none⟩ = some x3) (a b c d : Value) :
    ((((V.setCell ⟨g, 0, none⟩ a).setCell ⟨g, 1, none⟩ b).setCell ⟨g, 2, none⟩ c).setCell ⟨g, 3, none⟩ d).cell? ⟨g, 0, none⟩ = some a ∧ ((((V.setCell ⟨g, 0, none⟩ a).setCell ⟨g, 1, none⟩ b).setCell ⟨g, 2, none⟩ c).setCell ⟨g, 3, none⟩ d).cell? ⟨g, 1, none⟩ = some b ∧
    ((((V.setCell ⟨g, 0, none⟩ a).setCell ⟨g, 1, none⟩ b).setCell ⟨g, 2, none⟩ c).setCell ⟨g, 3, none⟩ d).cell? ⟨g, 2, none⟩ = some c ∧ ((((V.setCell ⟨g, 0, none⟩ a).setCell ⟨g, 1, none⟩ b).setCell ⟨g, 2, none⟩ c).setCell ⟨g, 3, none⟩ d).cell? ⟨g, 3, none⟩ = some d := by
  refine ⟨?_, ?_, ?_, ?_⟩
  · rw [World.cell?_setCell_other _ _ _ _ (by simp), World.cell?_setCell_other _ _ _ _ (by simp), World.cell?_setCell_other _ _ _ _ (by simp)]
    exact World.cell?_setCell_same' _ _ _ (by rw [h0]; rfl)
  · rw [World.cell?_setCell_other _ _ _ _ (by simp), World.cell?_setCell_other _ _ _ _ (by simp)]
    exact World.cell?_setCell_same' _ _ _ (by rw [World.cell?_setCell_other _ _ _ _ (by simp), h1]; rfl)
  · rw [World.cell?_setCell_other _ _ _ _ (by simp)]
    exact World.cell?_setCell_same' _ _ _ (by rw [World.cell?_setCell_other _ _ _ _ (by simp), World.cell?_setCell_other _ _ _ _ (by simp), h2]; rfl)
  · exact World.cell?_setCell_same' _ _ _ (by rw [World.cell?_setCell_other _ _ _ _ (by simp), World.cell?_setCell_other _ _ _ _ (by simp), World.cell?_setCell_other _ _ _ _ (by simp), h3]; rfl)
def ReadOf (l : List UInt8) (w : World) (e : Ending) (w' : World) : Prop :=
  Below w.heap.size w w' ∧ ((∃ m a b d r x cap, splitC l = some m ∧ parseM m = some (a, b, d, r) ∧ e = .returned (.tuple #[frV (a.toNat : Int) (b.toNat : Int) (d.toNat : Int) x r.length cap, .int .i64 0]) ∧ OwnsB w.heap.size w' x cap r) ∨
    ((splitC l).bind parseM = none ∧ e = .returned (.tuple #[frV 0 0 0 none 0 0, .int .i64 (if splitC l = none then 40 else 170)])))
theorem split_len {l m : List UInt8} (h : splitC l = some m) : m.length ≤ l.length := by rw [splitC_some h, List.length_append]; omega

set_option maxHeartbeats 1000000 in
theorem readf_any (x : Option Addr) (l : List UInt8) (c : Nat) (w : World) (hx : Bts w x l) (hl : l.length ≤ 100000) (hc : l.length ≤ c ∧ c ≤ 9223372036854775807) : Calls Tryd.prog 27 #[.slice x l.length c] w (ReadOf l w) := by
  have hB := Below.refl w.heap.size w
  go_enter Tryd.func27, Tryd.ntmps27
  go_wp2_with fail
  refine (check_all x l c _ (hx.later (al hB _)) hl hc).mono ?_
  rintro e w1 (⟨m, hs, x1, c1, rfl, ho, hb⟩ | ⟨hs, rfl, hb⟩)
  · have HS := Lib.hid hs
    have hml := split_len hs
    have r0 := later (a := ⟨w.heap.size, 0, none⟩) (v := .int .i64 0) hb (by go_simp)
    have z0 := (Below.frozen hb (p := ⟨w.heap.size, 0, none⟩) (by simp)).trans (show _ = false by go_simp)
    have r1 := later (a := ⟨w.heap.size, 1, none⟩) (v := .int .i64 0) hb (by go_simp)
    have z1 := (Below.frozen hb (p := ⟨w.heap.size, 1, none⟩) (by simp)).trans (show _ = false by go_simp)
    have r2 := later (a := ⟨w.heap.size, 2, none⟩) (v := .int .i64 0) hb (by go_simp)
    have z2 := (Below.frozen hb (p := ⟨w.heap.size, 2, none⟩) (by simp)).trans (show _ = false by go_simp)
    have r3 := later (a := ⟨w.heap.size, 3, none⟩) (v := .slice none 0 0) hb (by go_simp)
    have z3 := (Below.frozen hb (p := ⟨w.heap.size, 3, none⟩) (by simp)).trans (show _ = false by go_simp)
    have hcap := ho.le_cap
    have hB1 := thru (al hB _) hb
    have hz1 : w.heap.size < w1.heap.size := World.block_lt_of_cell? _ _ r0
    by_cases h4 : m.length < 4
    · have HP : Hid ((splitC l).bind parseM = none) := by show _ = _; rw [hs]; exact parse_short m h4
      have HC : Hid ((if splitC l = none then (40 : Int) else 170) = 170) := by show _ = _; rw [hs]; rfl
      clear hs ho hb
      go_wp2_with fail
      refine (read_short w1.heap.size x1 m c1 _ (by go_simp) h4).mono ?_
      rintro e w2 ⟨rfl, rfl⟩
      go_wp2_with fail
      exact bodyPost_ret (v := .tuple #[frV 0 0 0 none 0 0, .int .i64 170]) (by obtain ⟨e0, e1, e2, e3⟩ := four_cells r0 r1 r2 r3 (.int .i64 0) (.int .i64 0) (.int .i64 0) (.slice none 0 0); simp [results, Tryd.results27, go_sem, frV, e0, e1, e2, e3, hz1]) rfl ⟨(four_set hB1 (Nat.le_refl _) _ _ _ _).alloc (by simp; exact hB1.size) _, .inr ⟨HP.out, by rw [HC.out]⟩⟩
    · match m, h4 with
      | [], h4 => exact absurd (by simp) h4
      | [_], h4 => exact absurd (by simp) h4
      | [_, _], h4 => exact absurd (by simp) h4
      | [_, _, _], h4 => exact absurd (by simp) h4
      | a :: b :: d :: e0 :: r, _ =>
        obtain ⟨gd, rfl⟩ := ho.some_of (by simp)
        have hgd := (ho.low gd rfl).2
        have hlen : (a :: b :: d :: e0 :: r).length = r.length + 4 := rfl
        have hbt := ho.bts
        rw [hlen] at hcap hml ⊢
        have HO := Lib.hid ho
        clear ho hb hlen
        obtain ⟨q, hq⟩ : ∃ q, (((e0.toNat : Int) == (r.length : Int)) && vldF (a.toNat : Int) (b.toNat : Int) (d.toNat : Int) r.length) = q := ⟨_, rfl⟩
        have HQ := Lib.hid hq
        have Hs := Lib.hid hs
        clear hq hs
        go_wp2_with fail
        refine (read_long w1.heap.size gd 0 a b d e0 r c1 _ (by go_simp) (hbt.later (al (Below.refl _ w1) _)) hcap.1 hcap.2 hgd (by omega) (by go_simp) (by go_simp) (by go_simp) (by go_simp) (by go_simp) (by go_simp) (by go_simp) (by go_simp) (by go_simp)).mono ?_
        rintro e w2 ⟨x2, c2, rfl, m1, m2, m3, m4, ho2, hb2⟩
        rw [HQ.out]
        replace r0 : w2.cell? ⟨w.heap.size, 0, none⟩ = some (.int .i64 0) := (hb2.cell (p := ⟨w.heap.size, 0, none⟩) hz1).trans (by go_simp)
        replace z0 : w2.frozen? ⟨w.heap.size, 0, none⟩ = false := (hb2.frozen (p := ⟨w.heap.size, 0, none⟩) hz1).trans (by go_simp)
        replace r1 : w2.cell? ⟨w.heap.size, 1, none⟩ = some (.int .i64 0) := (hb2.cell (p := ⟨w.heap.size, 1, none⟩) hz1).trans (by go_simp)
        replace z1 : w2.frozen? ⟨w.heap.size, 1, none⟩ = false := (hb2.frozen (p := ⟨w.heap.size, 1, none⟩) hz1).trans (by go_simp)
        replace r2 : w2.cell? ⟨w.heap.size, 2, none⟩ = some (.int .i64 0) := (hb2.cell (p := ⟨w.heap.size, 2, none⟩) hz1).trans (by go_simp)
        replace z2 : w2.frozen? ⟨w.heap.size, 2, none⟩ = false := (hb2.frozen (p := ⟨w.heap.size, 2, none⟩) hz1).trans (by go_simp)
        replace r3 : w2.cell? ⟨w.heap.size, 3, none⟩ = some (.slice none 0 0) := (hb2.cell (p := ⟨w.heap.size, 3, none⟩) hz1).trans (by go_simp)
        replace z3 : w2.frozen? ⟨w.heap.size, 3, none⟩ = false := (hb2.frozen (p := ⟨w.heap.size, 3, none⟩) hz1).trans (by go_simp)
        have hB2 : Below w.heap.size w w2 := (hB1.alloc hB1.size _).trans (hb2.mono hB1.size)
        have HO2 := Lib.hid (ho2.weaken (show w.heap.size ≤ _ by simp; omega))
        have hlow := fun b hb => (ho2.low b hb).1
        have HLOW := Lib.hid hlow
        clear ho2 hlow hb2
        cases q
        · have HP : Hid ((splitC l).bind parseM = none) := by
            show _ = _
            rw [Hs.out]
            show parseM (a :: b :: d :: e0 :: r) = none
            show (if (((e0.toNat : Int) == (r.length : Int)) && vldF (a.toNat : Int) (b.toNat : Int) (d.toNat : Int) r.length) = true then some (a, b, d, r) else none) = none
            rw [HQ.out, if_neg (by decide)]
          have HC : Hid ((if splitC l = none then (40 : Int) else 170) = 170) := by show _ = _; rw [Hs.out]; rfl
          go_wp2_with fail
          exact bodyPost_ret (v := .tuple #[frV 0 0 0 none 0 0, .int .i64 170]) (by obtain ⟨e0, e1, e2, e3⟩ := four_cells r0 r1 r2 r3 (.int .i64 0) (.int .i64 0) (.int .i64 0) (.slice none 0 0); simp [results, Tryd.results27, go_sem, frV, e0, e1, e2, e3]) rfl ⟨four_set hB2 (Nat.le_refl _) _ _ _ _, .inr ⟨HP.out, by rw [HC.out]⟩⟩
        · have HP : Hid (parseM (a :: b :: d :: e0 :: r) = some (a, b, d, r)) := by
            show _ = _
            show (if (((e0.toNat : Int) == (r.length : Int)) && vldF (a.toNat : Int) (b.toNat : Int) (d.toNat : Int) r.length) = true then some (a, b, d, r) else none) = some (a, b, d, r)
            rw [HQ.out, if_pos rfl]
          go_wp2_with fail
          refine bodyPost_ret (v := .tuple #[frV (a.toNat : Int) (b.toNat : Int) (d.toNat : Int) x2 r.length c2, .int .i64 0]) (by obtain ⟨e0, e1, e2, e3⟩ := four_cells r0 r1 r2 r3 (.int .i64 (a.toNat : Int)) (.int .i64 (b.toNat : Int)) (.int .i64 (d.toNat : Int)) (.slice x2 r.length c2); simp [results, Tryd.results27, go_sem, frV, e0, e1, e2, e3]) rfl ⟨four_set hB2 (Nat.le_refl _) _ _ _ _, .inl ⟨_, a, b, d, r, x2, c2, Hs.out, HP.out, rfl, ?_⟩⟩
          exact HO2.out.turn (four_turn w.heap.size _ _ _ _ _) (fun b hb e => by have := HLOW.out b hb; simp at this; omega)
  · have HP : Hid ((splitC l).bind parseM = none) := by show _ = _; rw [hs]; rfl
    have HC : Hid ((if splitC l = none then (40 : Int) else 170) = 40) := by show _ = _; rw [hs]; rfl
    have r0 := later (a := ⟨w.heap.size, 0, none⟩) (v := .int .i64 0) hb (by go_simp)
    have z0 := (Below.frozen hb (p := ⟨w.heap.size, 0, none⟩) (by simp)).trans (show _ = false by go_simp)
    have r1 := later (a := ⟨w.heap.size, 1, none⟩) (v := .int .i64 0) hb (by go_simp)
    have z1 := (Below.frozen hb (p := ⟨w.heap.size, 1, none⟩) (by simp)).trans (show _ = false by go_simp)
    have r2 := later (a := ⟨w.heap.size, 2, none⟩) (v := .int .i64 0) hb (by go_simp)
    have z2 := (Below.frozen hb (p := ⟨w.heap.size, 2, none⟩) (by simp)).trans (show _ = false by go_simp)
    have r3 := later (a := ⟨w.heap.size, 3, none⟩) (v := .slice none 0 0) hb (by go_simp)
    have z3 := (Below.frozen hb (p := ⟨w.heap.size, 3, none⟩) (by simp)).trans (show _ = false by go_simp)
    have hB1 := thru (al hB _) hb
    clear hs hb
    go_wp2_with fail
    exact bodyPost_ret (v := .tuple #[frV 0 0 0 none 0 0, .int .i64 40]) (by obtain ⟨e0, e1, e2, e3⟩ := four_cells r0 r1 r2 r3 (.int .i64 0) (.int .i64 0) (.int .i64 0) (.slice none 0 0); simp [results, Tryd.results27, go_sem, frV, e0, e1, e2, e3]) rfl ⟨four_set hB1 (Nat.le_refl _) _ _ _ _, .inr ⟨HP.out, by rw [HC.out]⟩⟩

end Go.Proofs.YtjnjjnkanbnliaaDoor
