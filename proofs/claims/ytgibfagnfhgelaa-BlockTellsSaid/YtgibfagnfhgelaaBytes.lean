/- Slices of bytes in memory, told by the list of their bytes. -/
import Derived.Test.YtgibfagnfhgelaaProg
import Derived.Test.YtgibfagnfhgelaaRegion
import Derived.WalkKit
import Derived.WalkSpells
import Derived.WalkLawsBesides
namespace Go.Proofs.Ytgibfagnfhgelaa
open Go.RowKit

theorem bcell {W w1 : World} (hb : Below W.heap.size W w1) : (∀ b o, b < W.heap.size → w1.cell? ⟨b, o, none⟩ = W.cell? ⟨b, o, none⟩) ∧ (∀ b o, b < W.heap.size → w1.frozen? ⟨b, o, none⟩ = W.frozen? ⟨b, o, none⟩) :=
  ⟨fun b o h => hb.cell (p := ⟨b, o, none⟩) h, fun b o h => hb.frozen (p := ⟨b, o, none⟩) h⟩

def encB (b : UInt8) : Value := .int .u8 (b.toNat : Int)

/-- The slice that begins at x holds these bytes. -/
def Bts (w : World) (x : Option Addr) (l : List UInt8) : Prop :=
  l = [] ∨ ∃ b o, x = some ⟨b, o, none⟩ ∧ ∀ i, i < l.length → w.cell? ⟨b, o + i, none⟩ = some (encB (l.getD i 0))

theorem Bts.later {w w' : World} {x : Option Addr} {l : List UInt8} (h : Bts w x l) (hb : Below w.heap.size w w') : Bts w' x l := by
  rcases h with h | ⟨b, o, hx, hc⟩
  · exact .inl h
  · exact .inr ⟨b, o, hx, fun i hi => Go.Proofs.Ytgibfagnfhgelaa.later hb (hc i hi)⟩

theorem Bts.nil (w : World) (x : Option Addr) : Bts w x [] := .inl rfl

theorem encB_oneCell (b : UInt8) : (encB b).oneCell' = true := rfl

theorem run_conv {P : Program} {w : World} {src e dst : TypeId} (hs : P.underlying src = some (.slice e)) (he : P.underlying e = some (.int .u8)) (hd : P.underlying dst = some .string)
    {x : Option Addr} {l : List UInt8} (h : Bts w x l) (cap : Nat) : (convert src dst (.slice x l.length cap)).run P w = .ok (.string ⟨l.toArray⟩) w := by
  cases x with
  | none =>
    have hl : l = [] := by
      rcases h with h | ⟨b, o, hx, _⟩
      · exact h
      · cases hx
    subst hl
    rw [run_convert_bytes_nil w src e hs he _ _ dst hd]
    rfl
  | some a =>
    rw [run_convert_bytes_string w src dst e _ _ _ hs he hd]
    have hl : (loadCells a l.length).run P w = .ok ((l.map fun b => (b.toNat : Int)).map (Value.int .u8)).toArray w := by
      have := run_loadCells_list (P := P) w a ((l.map fun b => (b.toNat : Int)).map (Value.int .u8)) (fun j v hj => by
        rcases h with h | ⟨b, o, hx, hc⟩
        · subst h; simp at hj
        · cases hx
          have hjl : j < l.length := by
            rcases Nat.lt_or_ge j l.length with h | h
            · exact h
            · simp [List.getElem?_eq_none h] at hj
          have hplain : (⟨b, o, none⟩ : Addr).add j = ⟨b, o + j, none⟩ := by unfold Addr.add; split <;> simp_all
          rw [hplain, hc j hjl]
          simp [List.getElem?_eq_getElem hjl] at hj
          subst hj
          simp [encB, List.getElem?_eq_getElem hjl])
      simpa using this
    rw [run_bytesToString w a l.length cap _ hl, foldl_push_bytes]
    have : (List.map (fun n => UInt8.ofNat n.toNat) (List.map (fun b => (b.toNat : Int)) l)) = l := by
      rw [List.map_map]; conv => rhs; rw [← List.map_id l]
      apply List.map_congr_left
      intro b _
      simp
    rw [this]
    simp [ByteArray.empty, ByteArray.emptyWithCapacity]
    rfl

/-- A row that the call owns is a slice of these bytes. -/
theorem Bts.of_owns {w : World} {base : Nat} {e : TypeId} {x : Option Addr} {n cap : Nat} {l : List UInt8} (h : w.ownsRow base e 1 (.slice x n cap) n (l.map encB)) : n = l.length ∧ Bts w x l := by
  have hlen : n = l.length := by have := h.1; simpa using this.symm
  refine ⟨hlen, ?_⟩
  rcases h.2 with ⟨hv, h0⟩ | ⟨g, cap', cur, hv, _, hg, hnc, _, hcs, htake⟩
  · left; exact List.eq_nil_of_length_eq_zero (by omega)
  · right
    simp only [Value.slice.injEq] at hv
    refine ⟨g, 0, hv.1, fun i hi => ?_⟩
    have h1 := h.cells (g := g) (by rw [hv.1]; rfl) i (encB (l.getD i 0)) (by simp [List.getElem?_eq_getElem hi])
    have hplain : (⟨g, 0, none⟩ : Addr).add i = ⟨g, 0 + i, none⟩ := by unfold Addr.add; split <;> simp_all
    rw [hplain] at h1
    exact h1

end Go.Proofs.Ytgibfagnfhgelaa
