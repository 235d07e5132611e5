/- Slices of bytes that a call owns. -/
import Derived.Test.YtgibfagnfhgelaaBytes
import Derived.Maps.AppendAt
import Derived.Lib.Hide
namespace Go.Proofs.Ytgibfagnfhgelaa
open Go.RowKit

theorem infoByte : (Try.prog.info? 5).map (fun i => (i.zero, i.size, i.bytes)) = some (some (.int .u8 0), 1, 1) := by kernel_rfl

/-- What is left of a call that hands back a slice of its own: these bytes, from block B on, nothing that was there turned. -/
def OwnsB (B : Nat) (w : World) (x : Option Addr) (cap : Nat) (l : List UInt8) : Prop := w.ownsRow B 5 1 (.slice x l.length cap) l.length (l.map encB)

theorem OwnsB.bts {B : Nat} {w : World} {x : Option Addr} {cap : Nat} {l : List UInt8} (h : OwnsB B w x cap l) : Bts w x l := (Bts.of_owns h).2

theorem news_of_bts {w : World} {a : Addr} {l : List UInt8} (h : Bts w (some a) l) : ∀ j u, (l.map encB)[j]? = some u → w.cell? (a.add j) = some u := by
  intro j u hj
  rcases h with h | ⟨b, o, hx, hc⟩
  · subst h; simp at hj
  · cases hx
    have hjl : j < l.length := by
      rcases Nat.lt_or_ge j l.length with h | h
      · exact h
      · simp [List.getElem?_eq_none h] at hj
    have hplain : (⟨b, o, none⟩ : Addr).add j = ⟨b, o + j, none⟩ := by unfold Addr.add; split <;> simp_all
    rw [hplain, hc j hjl]
    simp [List.getElem?_eq_getElem hjl] at hj
    simp [List.getElem?_eq_getElem hjl, hj]

theorem owns_form {w : World} {B e : Nat} {v : Value} {n : Nat} {xs : List Value} (h : w.ownsRow B e 1 v n xs) : ∃ x cap, v = .slice x n cap := by
  rcases h.2 with ⟨rfl, rfl⟩ | ⟨g, cap, cur, rfl, _⟩
  · exact ⟨none, 0, rfl⟩
  · exact ⟨_, _, rfl⟩

end Go.Proofs.Ytgibfagnfhgelaa
