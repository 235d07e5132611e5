/- LAW SignForm: the parts joined. -/
import Derived.Test.YtjpicnfkmfjnoaaSgnSf
import Derived.Test.YtjpicnfkmfjnoaaSgnSg
namespace Go.Proofs.Ytjpicnfkmfjnoaa
open Go.RowKit

theorem form_law (root : D64) (h : Int) (d : D64) (key : Int) (f : Nat → D64) (x : Option Addr) (p : List D64) (c : Nat) (ct : UInt8) (w : World) (hp : Wts w x p) :
    Calls Try.prog 8 #[.int .u64 (num root), .int .i64 h, .int .u64 (num d), aggN 20 (sigV key f x p.length c), .int .u8 (ct.toNat : Int)] w (YesOf w) := by
  by_cases hn : 10 < p.length
  · exact form_big root h d key f x p.length c ct w hn
  · by_cases hs : vldS h key = false ∨ (p.length : Int) ≠ h
    · cases hov : vldS (p.length : Int) key with
      | false => exact form_ff root h d key f x p c ct w hp (by omega) hs hov
      | true => exact form_ft root h d key f x p c ct w hp (by omega) hs hov
    · have hv : vldS h key = true := by
        cases hq : vldS h key with
        | true => rfl
        | false => exact absurd (.inl hq) hs
      have hh : (p.length : Int) = h := Classical.byContradiction fun e => hs (.inr e)
      subst hh
      exact form_tt root d key f x p c ct w hp hv

end Go.Proofs.Ytjpicnfkmfjnoaa
