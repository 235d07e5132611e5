/- The plain laws of FrameBad: few bytes are no frame; a header byte changed. -/
import Derived.Test.YtjnjjnkanbnliaaDoorLawB17
namespace Go.Proofs.YtjnjjnkanbnliaaDoor
open Go.RowKit

theorem readV_few {l : List UInt8} (h : l.length ≤ 8) : readV l = none := by
  cases hr : readV l with
  | none => rfl
  | some o =>
    obtain ⟨a, b, d, r⟩ := o
    obtain ⟨h1, h2⟩ := readV_inv hr
    have h3 := ((vldF_iff _ _ _ _).1 h2).2.2.2.1
    rw [h1, whole_length] at h
    omega
/-- What Read answers to a body with its trailer. -/
theorem readV_app (m : List UInt8) : readV (m ++ Crc.trailer (Crc.sum m)) = parseM m := by
  unfold readV; rw [splitC_of, Option.bind_some]
theorem codeV_app (m : List UInt8) : codeV (m ++ Crc.trailer (Crc.sum m)) = 170 := by
  unfold codeV; rw [splitC_of, if_neg (by simp)]
theorem parse_none {a b d e : UInt8} {r : List UInt8} (h : (((e.toNat : Int) == (r.length : Int)) && vldF (a.toNat : Int) (b.toNat : Int) (d.toNat : Int) r.length) = false) : parseM (a :: b :: d :: e :: r) = none := by
  show (if (((e.toNat : Int) == (r.length : Int)) && vldF (a.toNat : Int) (b.toNat : Int) (d.toNat : Int) r.length) = true then some (a, b, d, r) else none) = _
  rw [h]; rfl
theorem parse_some {a b d e : UInt8} {r : List UInt8} (h : (((e.toNat : Int) == (r.length : Int)) && vldF (a.toNat : Int) (b.toNat : Int) (d.toNat : Int) r.length) = true) : parseM (a :: b :: d :: e :: r) = some (a, b, d, r) := by
  show (if (((e.toNat : Int) == (r.length : Int)) && vldF (a.toNat : Int) (b.toNat : Int) (d.toNat : Int) r.length) = true then some (a, b, d, r) else none) = _
  rw [if_pos h]
theorem OwnsB.later {B : Nat} {w w' : World} {x : Option Addr} {cap : Nat} {l : List UInt8} (h : OwnsB B w x cap l) (hb : Below w.heap.size w w') : OwnsB B w' x cap l :=
  h.turn (T := fun _ => False) (Turns.of_below hb (Nat.le_refl _)) (fun _ _ h => h)
theorem readf_at (x : Option Addr) (l : List UInt8) (n c : Nat) (w : World) (h : l.length = n) (hx : Bts w x l) (hl : l.length ≤ 100000) (hc : l.length ≤ c ∧ c ≤ 9223372036854775807) : Calls Tryd.prog 27 #[.slice x n c] w (ReadAt (readV l) (codeV l) w) := by
  subst h; exact readf_all x l c w hx hl hc
theorem codeV_zero (l : List UInt8) : (codeV l == 0) = false := by unfold codeV; split <;> rfl

end Go.Proofs.YtjnjjnkanbnliaaDoor
