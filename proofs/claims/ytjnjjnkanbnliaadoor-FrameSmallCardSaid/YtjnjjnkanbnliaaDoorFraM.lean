/- WALKS of the laws of the frame layer: reads. -/
import Derived.Test.YtjnjjnkanbnliaaDoorFraL
namespace Go.Proofs.YtjnjjnkanbnliaaDoor
open Go.RowKit

/-- What reading some bytes gives. -/
def readV (l : List UInt8) : Option (UInt8 × UInt8 × UInt8 × List UInt8) := (splitC l).bind parseM
def codeV (l : List UInt8) : Int := if splitC l = none then 40 else 170
def ReadAt (o : Option (UInt8 × UInt8 × UInt8 × List UInt8)) (k : Int) (w : World) (e : Ending) (w' : World) : Prop := match o with
  | some (a, b, d, r) => (∃ x c, e = .returned (.tuple #[.agg #[.int .i64 (a.toNat : Int), .int .i64 (b.toNat : Int), .int .i64 (d.toNat : Int), .slice x r.length c], .int .i64 0]) ∧ OwnsB w.heap.size w' x c r) ∧ Below w.heap.size w w'
  | none => e = .returned (.tuple #[.agg #[.int .i64 0, .int .i64 0, .int .i64 0, .slice none 0 0], .int .i64 k]) ∧ Below w.heap.size w w'
theorem readAt_of {l : List UInt8} {w : World} {e : Ending} {w' : World} (h : ReadOf l w e w') : ReadAt (readV l) (codeV l) w e w' := by
  obtain ⟨hB, ⟨m, a, b, d, r, x, c, h1, h2, h3, h4⟩ | ⟨h1, h2⟩⟩ := h
  · have : readV l = some (a, b, d, r) := by unfold readV; rw [h1, Option.bind_some, h2]
    rw [this]
    exact ⟨⟨x, c, h3, h4⟩, hB⟩
  · have : readV l = none := h1
    rw [this]
    exact ⟨h2, hB⟩
theorem readV_len {l : List UInt8} {a b d : UInt8} {r : List UInt8} (h : readV l = some (a, b, d, r)) : r.length ≤ l.length := by
  unfold readV at h
  cases hs : splitC l with
  | none => rw [hs] at h; cases h
  | some m =>
    rw [hs, Option.bind_some] at h
    have hm := split_len hs
    match m, h with
    | [], h => cases h
    | [_], h => cases h
    | [_, _], h => cases h
    | [_, _, _], h => cases h
    | a' :: b' :: d' :: e' :: r', h =>
      have h' : (if (((e'.toNat : Int) == (r'.length : Int)) && vldF (a'.toNat : Int) (b'.toNat : Int) (d'.toNat : Int) r'.length) = true then some (a', b', d', r') else none) = some (a, b, d, r) := h
      split at h'
      · cases h'; simp at hm; omega
      · cases h'
theorem readf_all (x : Option Addr) (l : List UInt8) (c : Nat) (w : World) (hx : Bts w x l) (hl : l.length ≤ 100000) (hc : l.length ≤ c ∧ c ≤ 9223372036854775807) : Calls Tryd.prog 27 #[.slice x l.length c] w (ReadAt (readV l) (codeV l) w) :=
  (readf_any x l c w hx hl hc).mono fun _ _ h => readAt_of h
theorem refread_all (x : Option Addr) (l : List UInt8) (c : Nat) (w : World) (hx : Bts w x l) (hl : l.length ≤ 100000) (hc : l.length ≤ c ∧ c ≤ 9223372036854775807) : Calls Tryd.prog 33 #[.slice x l.length c] w (ReadAt (readV l) (codeV l) w) :=
  (refread_any x l c w hx hl hc).mono fun _ _ h => readAt_of h

def RdLoop (B _B1 b2 : Nat) (w : World) (x2 : Option Addr) (c2 n g1 : Nat) (ml : List UInt8) (u39 : Value) (wr : World) : Prop :=
  ∃ (j : Nat) (q : List UInt8), j ≤ n ∧ u39 = .int .i64 (j : Int) ∧ q.length = n ∧ OwnsB B wr x2 c2 q ∧ Bts wr (some ⟨g1, 0, none⟩) ml ∧ wr.cell? ⟨b2, 3, none⟩ = some (.slice x2 n c2) ∧ Below w.heap.size w wr
set_option maxHeartbeats 2000000 in
theorem reads_any (x : Option Addr) (l : List UInt8) (cx : Nat) (w : World) (hx : Bts w x l) (hn : x = none → cx = 0) (hl : l.length ≤ 500) (hcx : l.length ≤ cx ∧ cx ≤ 9223372036854775807) :
    Calls Tryd.prog 18 #[.slice x l.length cx] w fun e w' => e = .returned (.bool true) ∧ Below w.heap.size w w' := by
  obtain ⟨o, ho⟩ : ∃ o, readV l = o := ⟨_, rfl⟩
  obtain ⟨k, hk⟩ : ∃ k, codeV l = k := ⟨_, rfl⟩
  have HV := Lib.hid ho
  have HK := Lib.hid hk
  clear hk
  rcases o with _ | ⟨a, b, d, r⟩
  · have HSF : Hid (sameF 0 0 0 [] 0 0 0 [] = true) := by show _ = _; unfold sameF; simp
    have hB := Below.refl w.heap.size w
    go_enter Tryd.func18, Tryd.ntmps18
    go_wp2_with fail
    refine (lent_any x l cx _ hx hn (by omega)).mono ?_
    rintro e w1 ⟨g1, c1, rfl, ho, hc1, hb⟩
    have yl := ho.bts
    have hc2 := ho.le_cap.2
    have hg1 := (ho.low g1 rfl).2
    have HS1 := Lib.hid hb.size
    clear ho
    have hq := thru (Below.refl _ w) hb
    replace hB := thru hB hq
    clear hb hq 
    go_wp2_with fail
    refine (readf_all (some ⟨g1, 0, none⟩) l c1 _ yl.left (by omega) (by omega)).mono ?_
    rw [HV.out, HK.out]
    rintro e w2 ⟨rfl, hb⟩
    have hq := thru (Below.refl _ w1) hb
    replace hB := thru hB hq
    replace yl := yl.later hq
    clear hb hq 
    go_wp2_with fail
    refine (refread_all x l cx _ (hx.later (al hB _)) (by omega) (by omega)).mono ?_
    rw [HV.out, HK.out]
    rintro e w3 ⟨rfl, hb⟩
    have hq := thru (al (Below.refl _ w2) _) hb
    have g3_0 := later (a := ⟨w2.heap.size, 0, none⟩) (v := .int .i64 0) hb (by go_simp)
    have g3_1 := later (a := ⟨w2.heap.size, 1, none⟩) (v := .int .i64 0) hb (by go_simp)
    have g3_2 := later (a := ⟨w2.heap.size, 2, none⟩) (v := .int .i64 0) hb (by go_simp)
    have g3_3 := later (a := ⟨w2.heap.size, 3, none⟩) (v := .slice none 0 0) hb (by go_simp)
    have z3_0 : w2.heap.size < w3.heap.size := (by have := hb.size; first | omega | (simp at this; omega))
    replace hB := thru hB hq
    replace yl := yl.later hq
    clear hb hq 
    go_wp2_with fail
    refine (refsame_any _ _ _ none [] 0 _ _ _ none [] 0 _ (Bts.nil _ _) (Bts.nil _ _) (by simp) (by simp)).mono ?_
    rintro e w4 ⟨rfl, hb⟩
    rw [HSF.out]
    have hq := thru (al (Below.refl _ w3) _) hb
    have g4_0 := later hq g3_0
    have g4_1 := later hq g3_1
    have g4_2 := later hq g3_2
    have g4_3 := later hq g3_3
    have g4_4 := later (a := ⟨w3.heap.size, 0, none⟩) (v := .int .i64 0) hb (by go_simp)
    have g4_5 := later (a := ⟨w3.heap.size, 1, none⟩) (v := .int .i64 0) hb (by go_simp)
    have g4_6 := later (a := ⟨w3.heap.size, 2, none⟩) (v := .int .i64 0) hb (by go_simp)
    have g4_7 := later (a := ⟨w3.heap.size, 3, none⟩) (v := .slice none 0 0) hb (by go_simp)
    have z4_0 : w2.heap.size < w4.heap.size := Nat.lt_of_lt_of_le z3_0 hq.size
    have z4_1 : w3.heap.size < w4.heap.size := (by have := hb.size; first | omega | (simp at this; omega))
    replace hB := thru hB hq
    replace yl := yl.later hq
    clear hb hq g3_0 g3_1 g3_2 g3_3 z3_0
    go_wp2_with fail
    refine (kept_any g1 c1 l x cx _ yl hc1 hc2 (hx.later hB) (by omega)).mono ?_
    rintro e w5 ⟨rfl, hb⟩
    have hq := thru (Below.refl _ w4) hb
    have g5_0 := later hq g4_0
    have g5_1 := later hq g4_1
    have g5_2 := later hq g4_2
    have g5_3 := later hq g4_3
    have g5_4 := later hq g4_4
    have g5_5 := later hq g4_5
    have g5_6 := later hq g4_6
    have g5_7 := later hq g4_7
    have z5_0 : w2.heap.size < w5.heap.size := Nat.lt_of_lt_of_le z4_0 hq.size
    have z5_1 : w3.heap.size < w5.heap.size := Nat.lt_of_lt_of_le z4_1 hq.size
    replace hB := thru hB hq
    replace yl := yl.later hq
    clear hb hq g4_0 g4_1 g4_2 g4_3 g4_4 g4_5 g4_6 g4_7 z4_0 z4_1
    go_wp2_with fail
    refine wp_loop_rounds 2 ?_
    rw [rounds_succ]
    go_wp2_with fail
    refine (kept_any g1 c1 l x cx _ yl hc1 hc2 (hx.later hB) (by omega)).mono ?_
    rintro e w6 ⟨rfl, hb⟩
    have hq := thru (Below.refl _ w5) hb
    have g6_0 := later hq g5_0
    have g6_1 := later hq g5_1
    have g6_2 := later hq g5_2
    have g6_3 := later hq g5_3
    have g6_4 := later hq g5_4
    have g6_5 := later hq g5_5
    have g6_6 := later hq g5_6
    have g6_7 := later hq g5_7
    have z6_0 : w2.heap.size < w6.heap.size := Nat.lt_of_lt_of_le z5_0 hq.size
    have z6_1 : w3.heap.size < w6.heap.size := Nat.lt_of_lt_of_le z5_1 hq.size
    replace hB := thru hB hq
    replace yl := yl.later hq
    clear hb hq g5_0 g5_1 g5_2 g5_3 g5_4 g5_5 g5_6 g5_7 z5_0 z5_1
    go_wp2_with fail
    go_ret
    exact ⟨rfl, hB⟩
  · have hr := readV_len ho
    have HSF : Hid (sameF (a.toNat : Int) (b.toNat : Int) (d.toNat : Int) r (a.toNat : Int) (b.toNat : Int) (d.toNat : Int) r = true) := by show _ = _; unfold sameF; simp
    clear ho
    have hB := Below.refl w.heap.size w
    go_enter Tryd.func18, Tryd.ntmps18
    go_wp2_with fail
    refine (lent_any x l cx _ hx hn (by omega)).mono ?_
    rintro e w1 ⟨g1, c1, rfl, ho, hc1, hb⟩
    have yl := ho.bts
    have hc2 := ho.le_cap.2
    have hg1 := (ho.low g1 rfl).2
    have HS1 := Lib.hid hb.size
    clear ho
    have hq := thru (Below.refl _ w) hb
    replace hB := thru hB hq
    clear hb hq 
    go_wp2_with fail
    refine (readf_all (some ⟨g1, 0, none⟩) l c1 _ yl.left (by omega) (by omega)).mono ?_
    rw [HV.out, HK.out]
    rintro e w2 ⟨⟨x2, c2, rfl, ho⟩, hb⟩
    have HO := Lib.hid ho
    have hlow := fun b hb => (ho.low b hb).1
    have HLOW := Lib.hid hlow
    have hlow2 := fun b hb => (ho.low b hb).2
    have HSP2 := Lib.hid hlow2
    clear ho hlow hlow2
    have hq := thru (Below.refl _ w1) hb
    replace hB := thru hB hq
    replace yl := yl.later hq
    clear hb hq 
    go_wp2_with fail
    refine (refread_all x l cx _ (hx.later (al hB _)) (by omega) (by omega)).mono ?_
    rw [HV.out, HK.out]
    rintro e w3 ⟨⟨x3, c3, rfl, ho⟩, hb⟩
    have y3 := ho.bts
    clear ho
    replace HO := Lib.hid (HO.out.turn (((Turns.refl (fun _ => False) w2).alloc _).trans (Turns.of_below hb (Nat.le_refl _))) (fun _ _ h => h))
    have hq := thru (al (Below.refl _ w2) _) hb
    have g3_0 := later (a := ⟨w2.heap.size, 0, none⟩) (v := .int .i64 (a.toNat : Int)) hb (by go_simp)
    have g3_1 := later (a := ⟨w2.heap.size, 1, none⟩) (v := .int .i64 (b.toNat : Int)) hb (by go_simp)
    have g3_2 := later (a := ⟨w2.heap.size, 2, none⟩) (v := .int .i64 (d.toNat : Int)) hb (by go_simp)
    have g3_3 := later (a := ⟨w2.heap.size, 3, none⟩) (v := .slice x2 r.length c2) hb (by go_simp)
    have z3_0 : w2.heap.size < w3.heap.size := (by have := hb.size; first | omega | (simp at this; omega))
    replace hB := thru hB hq
    replace yl := yl.later hq
    clear hb hq 
    go_wp2_with fail
    have y2 := HO.out.bts
    refine (refsame_any _ _ _ x2 r c2 _ _ _ x3 r c3 _ (y2.later (al (Below.refl _ w3) _)) (y3.later (al (Below.refl _ w3) _)) (by omega) (by omega)).mono ?_
    rintro e w4 ⟨rfl, hb⟩
    rw [HSF.out]
    replace HO := Lib.hid (HO.out.turn (((Turns.refl (fun _ => False) w3).alloc _).trans (Turns.of_below hb (Nat.le_refl _))) (fun _ _ h => h))
    clear y2
    have hq := thru (al (Below.refl _ w3) _) hb
    have g4_0 := later hq g3_0
    have g4_1 := later hq g3_1
    have g4_2 := later hq g3_2
    have g4_3 := later hq g3_3
    have g4_4 := later (a := ⟨w3.heap.size, 0, none⟩) (v := .int .i64 (a.toNat : Int)) hb (by go_simp)
    have g4_5 := later (a := ⟨w3.heap.size, 1, none⟩) (v := .int .i64 (b.toNat : Int)) hb (by go_simp)
    have g4_6 := later (a := ⟨w3.heap.size, 2, none⟩) (v := .int .i64 (d.toNat : Int)) hb (by go_simp)
    have g4_7 := later (a := ⟨w3.heap.size, 3, none⟩) (v := .slice x3 r.length c3) hb (by go_simp)
    have z4_0 : w2.heap.size < w4.heap.size := Nat.lt_of_lt_of_le z3_0 hq.size
    have z4_1 : w3.heap.size < w4.heap.size := (by have := hb.size; first | omega | (simp at this; omega))
    replace hB := thru hB hq
    replace yl := yl.later hq
    replace y3 := y3.later hq
    clear hb hq g3_0 g3_1 g3_2 g3_3 z3_0
    clear y3
    go_wp2_with fail
    refine (kept_any g1 c1 l x cx _ yl hc1 hc2 (hx.later hB) (by omega)).mono ?_
    rintro e w5 ⟨rfl, hb⟩
    replace HO := Lib.hid (HO.out.turn (Turns.of_below hb (Nat.le_refl _)) (fun _ _ h => h))
    have hq := thru (Below.refl _ w4) hb
    have g5_0 := later hq g4_0
    have g5_1 := later hq g4_1
    have g5_2 := later hq g4_2
    have g5_3 := later hq g4_3
    have g5_4 := later hq g4_4
    have g5_5 := later hq g4_5
    have g5_6 := later hq g4_6
    have g5_7 := later hq g4_7
    have z5_0 : w2.heap.size < w5.heap.size := Nat.lt_of_lt_of_le z4_0 hq.size
    have z5_1 : w3.heap.size < w5.heap.size := Nat.lt_of_lt_of_le z4_1 hq.size
    replace hB := thru hB hq
    replace yl := yl.later hq
    clear hb hq g4_0 g4_1 g4_2 g4_3 g4_4 g4_5 g4_6 g4_7 z4_0 z4_1
    go_wp2_with fail
    have hsep : ∀ b, RowOf x2 b → w1.heap.size ≤ b := HLOW.out
    have HSEP := Lib.hid hsep
    clear hsep HLOW
    have hz2 : w.heap.size ≤ w1.heap.size := by have := HS1.out; exact this
    go_loopw [39] (fun u39 wr => RdLoop w.heap.size w1.heap.size w2.heap.size w x2 c2 r.length g1 (l ++ marks 12) u39 wr) (fun u39 _ => r.length - (intOf u39).toNat)
    case atStart => exact ⟨0, r, by omega, rfl, rfl, HO.out.weaken hz2, yl, g5_3, hB⟩
    case round =>
      clear HO yl hB g5_0 g5_1 g5_2 g5_3 g5_4 g5_5 g5_6 g5_7 z5_0 z5_1
      obtain ⟨j, q, hj, rfl, hq, ho, yl, f3, hB⟩ := hrel
      have HO := Lib.hid ho
      clear ho
      by_cases hlt : j < r.length
      · have hkb : decide ((j : Int) < (r.length : Int)) = true := by simp; omega
        obtain ⟨g2, rfl⟩ := HO.out.some_of (by omega)
        have hg2 := HSEP.out g2 rfl
        have hce := HO.out.cell j (by omega)
        have hfe := HO.out.free j
        obtain ⟨v, hv⟩ : ∃ v, q.getD j 0 = v := ⟨_, rfl⟩
        rw [hv] at hce
        have hinc : IntKind.u8.wrap ((v.toNat : Int) + 1) = ((v + 1).toNat : Int) := by rw [wrap8u, UInt8.toNat_add]; have : (1 : UInt8).toNat = 1 := rfl; rw [this]; omega
        obtain ⟨z, hz⟩ : ∃ z, v + 1 = z := ⟨_, rfl⟩
        rw [hz] at hinc
        clear hv hz
        go_wp2_with fail
        have hts : Turns (fun b => b = g2) wr (wr.setCell ⟨g2, j, none⟩ (.int .u8 (z.toNat : Int))) := Turns.setCell (T := fun b => b = g2) (p := ⟨g2, j, none⟩) (Turns.refl _ _) (fun _ => rfl) _
        exact ⟨⟨j + 1, q.set j z, by omega, by go_num, by rw [List.length_set]; exact hq, HO.out.set j z, yl.turn hts (fun a e => by cases e; simp; omega), hts.cell (by have := HSP2.out g2 rfl; simp; omega) f3, hB.trans (hts.below hB.size (fun b hb e => by omega))⟩, by simp [intOf]; omega⟩
      · obtain rfl : j = r.length := by omega
        go_wp2_with fail
        refine (kept_any g1 c1 l x cx _ yl hc1 hc2 (hx.later hB) (by omega)).mono ?_
        rintro e w6 ⟨rfl, hb⟩
        have hB6 := thru hB hb
        clear hb
        go_wp2_with fail
        go_ret
        exact ⟨rfl, hB6⟩

end Go.Proofs.YtjnjjnkanbnliaaDoor
