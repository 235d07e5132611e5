/- WALKS of the digest layer for the layers above: Pair, with that of the reference. -/
import Derived.Test.YtjpicnfkmfjnoaaDigB
import Derived.Test.YtjpicnfkmfjnoaaDigF
import Derived.Test.YtjpicnfkmfjnoaaAppend
namespace Go.Proofs.Ytjpicnfkmfjnoaa
open Go.RowKit

theorem OwnsB.none_cap {B : Nat} {w : World} {x : Option Addr} {cap : Nat} {l : List UInt8} (h : OwnsB B w x cap l) : x = none → cap = 0 := by
  intro e
  rcases h.2 with ⟨hv, _⟩ | ⟨g, cap', cur, hv, _⟩
  · simp only [Value.slice.injEq] at hv; exact hv.2.2
  · simp only [Value.slice.injEq] at hv; rw [e] at hv; exact absurd hv.1 (by simp)
theorem OwnsB.later {B : Nat} {w w' : World} {x : Option Addr} {cap : Nat} {l : List UInt8} (h : OwnsB B w x cap l) (hb : Below w.heap.size w w') : OwnsB B w' x cap l :=
  h.turn (T := fun _ => False) (Turns.of_below hb (Nat.le_refl _)) (fun _ _ h => h)

def NumOf (d : D64) (w : World) (e : Ending) (w' : World) : Prop := e = .returned (.int .u64 (num d)) ∧ Below w.heap.size w w'

theorem pair_any (a b : D64) (w : World) : Calls Try.prog 48 #[.int .u64 (num a), .int .u64 (num b)] w (NumOf (Dig.pair a b) w) := by
  have HP : Hid (num (Dig.ofL (Dig.bytes a ++ Dig.bytes b)) = num (Dig.pair a b)) := rfl
  obtain ⟨la, hla⟩ : ∃ l, Dig.bytes a = l := ⟨_, rfl⟩
  obtain ⟨lb, hlb⟩ : ∃ l, Dig.bytes b = l := ⟨_, rfl⟩
  have na : la.length = 8 := by rw [← hla]; exact Dig.bytes_length _
  have nb : lb.length = 8 := by rw [← hlb]; exact Dig.bytes_length _
  have ca := bytes_any a
  have cb := bytes_any b
  rw [hla] at ca HP
  rw [hlb] at cb HP
  have HA := Lib.hid na
  have HB := Lib.hid nb
  clear hla hlb na nb
  obtain ⟨l, hl⟩ : ∃ l, la ++ lb = l := ⟨_, rfl⟩
  go_enter Try.func48, Try.ntmps48
  go_wp2_with fail
  refine (ca _).mono ?_
  rintro e w1 ⟨b1, rfl, y1, hb1⟩
  clear ca
  go_wp2_with fail
  refine (cb _).mono ?_
  rintro e w2 ⟨b2, rfl, y2, hb2⟩
  clear cb
  have z1 := y1.later hb2
  go_wp2_with (at_builtin; refine wpList_app_full rfl _ _ rfl (l := la) (cap := la.length) rfl z1 (fun h => by cases h) (m := lb) rfl y2 (by have := HB.out; omega) (by have := HA.out; have := HB.out; omega) hl ?_; intro x' cap' w3 h1 h2)
  have y3 := h1.bts
  clear y1 y2 z1 h1
  have hll : (l.length : Int) ≤ 100000 := by rw [← hl]; have := HA.out; have := HB.out; simp; omega
  rw [hl] at HP
  clear hl
  go_wp2_with fail
  refine (of_any _ l _ _ hll y3).mono ?_
  rintro e w4 ⟨rfl, h4⟩
  rw [HP.out]
  clear y3 hll
  go_wp2_with fail
  go_ret
  exact ⟨rfl, thru (thru (thru hb1 hb2) h2) h4⟩

theorem refPair_any (a b : D64) (w : World) : Calls Try.prog 46 #[.int .u64 (num a), .int .u64 (num b)] w (NumOf (Dig.pair a b) w) := by
  have HP : Hid (num (Dig.ofL (Dig.bytes a ++ Dig.bytes b)) = num (Dig.pair a b)) := rfl
  obtain ⟨la, hla⟩ : ∃ l, Dig.bytes a = l := ⟨_, rfl⟩
  obtain ⟨lb, hlb⟩ : ∃ l, Dig.bytes b = l := ⟨_, rfl⟩
  have na : la.length = 8 := by rw [← hla]; exact Dig.bytes_length _
  have nb : lb.length = 8 := by rw [← hlb]; exact Dig.bytes_length _
  have ca := refBytes_any a
  have cb := refBytes_any b
  rw [hla] at ca HP
  rw [hlb] at cb HP
  have HA := Lib.hid na
  have HB := Lib.hid nb
  clear hla hlb na nb
  obtain ⟨l, hl⟩ : ∃ l, la ++ lb = l := ⟨_, rfl⟩
  go_enter Try.func46, Try.ntmps46
  go_wp2_with fail
  refine (ca _).mono ?_
  rintro e w1 ⟨b1, c1, rfl, y1, hb1⟩
  have Y1 := Lib.hid y1
  clear ca y1
  go_wp2_with fail
  refine (cb _).mono ?_
  rintro e w2 ⟨b2, c2, rfl, y2, hb2⟩
  have Y2 := Lib.hid y2
  clear cb y2
  go_wp2_with (at_builtin; refine wpList_app rfl _ _ rfl (l := la) (B := w.heap.size) (Y1.out.later hb2) rfl (m := lb) rfl Y2.out.bts Y2.out.none_cap (by have := HA.out; have := HB.out; omega) hl (by have := hb1.size; have := hb2.size; omega) ?_; intro x' cap' w3 h1 h2 _)
  have y3 := h1.bts
  have hB := (thru hb1 hb2).trans h2
  clear Y1 Y2 h1 h2 hb1 hb2
  have hll : l.length ≤ 100000 := by rw [← hl]; have := HA.out; have := HB.out; simp; omega
  rw [hl] at HP
  clear hl
  go_wp2_with fail
  refine (refOf_any _ l _ _ hll y3).mono ?_
  rintro e w4 ⟨rfl, rfl⟩
  rw [HP.out]
  clear y3 hll
  go_wp2_with fail
  go_ret
  exact ⟨rfl, hB⟩

end Go.Proofs.Ytjpicnfkmfjnoaa
