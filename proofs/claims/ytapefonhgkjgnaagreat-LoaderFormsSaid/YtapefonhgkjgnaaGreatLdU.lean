/- A row of tries (installations with power losses) in memory. -/
import Derived.Test.YtapefonhgkjgnaaGreatLdW
namespace Go.Proofs.YtapefonhgkjgnaaGreat
open Go.RowKit

/-- A try: a version, an image, numbers of operations and of steps. -/
structure TryV where
  ver : Int
  x : Option Addr
  c : Nat
  im : List UInt8
  ops : UInt8
  stp : UInt8
def try0 : TryV := ⟨0, none, 0, [], 0, 0⟩
def TryOk (w : World) (t : TryV) : Prop := Bts w t.x t.im ∧ (t.x = none → t.c = 0) ∧ 0 ≤ t.ver ∧ t.ver ≤ 65535
/-- The cells of a try in block b from place p on. -/
def TryAt (w : World) (b p : Nat) (t : TryV) : Prop := w.cell? ⟨b, p, none⟩ = some (.int .u16 t.ver) ∧ w.cell? ⟨b, p + 1, none⟩ = some (.slice t.x t.im.length t.c) ∧ w.cell? ⟨b, p + 2, none⟩ = some (.int .u8 (t.ops.toNat : Int)) ∧ w.cell? ⟨b, p + 3, none⟩ = some (.int .u8 (t.stp.toNat : Int))
/-- A slice of tries. -/
def Trs (w : World) (x : Option Addr) (ts : List TryV) : Prop := (ts = [] ∨ ∃ b o, x = some ⟨b, o, none⟩ ∧ ∀ i, i < ts.length → TryAt w b (o + i * 4) (ts.getD i try0)) ∧ ∀ t, t ∈ ts → TryOk w t
theorem Trs.later {w w' : World} {x : Option Addr} {ts : List TryV} (h : Trs w x ts) (hb : Below w.heap.size w w') : Trs w' x ts := by
  refine ⟨?_, fun t ht => ?_⟩
  · rcases h.1 with h | ⟨b, o, hx, hc⟩
    · exact .inl h
    · refine .inr ⟨b, o, hx, fun i hi => ?_⟩
      obtain ⟨h0, h1, h2, h3⟩ := hc i hi
      exact ⟨Go.Proofs.YtapefonhgkjgnaaGreat.later hb h0, Go.Proofs.YtapefonhgkjgnaaGreat.later hb h1, Go.Proofs.YtapefonhgkjgnaaGreat.later hb h2, Go.Proofs.YtapefonhgkjgnaaGreat.later hb h3⟩
  · obtain ⟨h1, h2⟩ := h.2 t ht
    exact ⟨h1.later hb, h2⟩

end Go.Proofs.YtapefonhgkjgnaaGreat
