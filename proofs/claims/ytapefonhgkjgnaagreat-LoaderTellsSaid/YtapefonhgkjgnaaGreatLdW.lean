/- Contracts of the loader's functions along the states of a store of 34 blocks, as the laws use them. -/
import Derived.Test.YtapefonhgkjgnaaGreatLdR
import Derived.Test.YtapefonhgkjgnaaGreatLdV
set_option maxRecDepth 20000
namespace Go.Proofs.YtapefonhgkjgnaaGreat
open Go.RowKit

theorem CellsR.turn {w w' : World} {x : Option Addr} {rs : List Rw} {T : Nat → Prop} (h : CellsR w x rs) (ht : Turns T w w') (hT : ∀ p, x = some p → ¬ T p.block) : CellsR w' x rs := by
  rcases h with h | ⟨b, o, hx, hc⟩
  · exact .inl h
  · exact .inr ⟨b, o, hx, fun i hi => ht.cell (p := ⟨b, o + i, none⟩) (show ¬ T b from hT ⟨b, o, none⟩ hx) (hc i hi)⟩
/-- A store in memory; its row and its blocks lie at B or above. -/
structure StoIn (B : Nat) (W : World) (x : Option Addr) (rs : List Rw) (ls : List (List UInt8)) : Prop where
  rws : Rws W x rs
  eq : rs.map (·.l) = ls
  lx : ∀ p, x = some p → B ≤ p.block
  lr : ∀ r, r ∈ rs → ∀ p, r.x = some p → B ≤ p.block
theorem StoIn.later {B : Nat} {W W' : World} {x : Option Addr} {rs : List Rw} {ls : List (List UInt8)} (h : StoIn B W x rs ls) (hb : Below W.heap.size W W') : StoIn B W' x rs ls := ⟨h.rws.later hb, h.eq, h.lx, h.lr⟩
theorem StoIn.turn {B : Nat} {W W' : World} {x : Option Addr} {rs : List Rw} {ls : List (List UInt8)} {T : Nat → Prop} (h : StoIn B W x rs ls) (ht : Turns T W W') (hT : ∀ b, T b → b < B) : StoIn B W' x rs ls :=
  ⟨⟨h.rws.1.turn ht (fun p e k => by have := hT _ k; have := h.lx p e; omega), fun r hr => ⟨(h.rws.2 r hr).1.turn ht (fun p e k => by have := hT _ k; have := h.lr r hr p e; omega), (h.rws.2 r hr).2⟩⟩, h.eq, h.lx, h.lr⟩
theorem StoIn.weaken {B B' : Nat} {W : World} {x : Option Addr} {rs : List Rw} {ls : List (List UInt8)} (h : StoIn B W x rs ls) (hB : B' ≤ B) : StoIn B' W x rs ls := ⟨h.rws, h.eq, fun p e => Nat.le_trans hB (h.lx p e), fun r hr p e => Nat.le_trans hB (h.lr r hr p e)⟩
theorem StoIn.len {B : Nat} {W : World} {x : Option Addr} {rs : List Rw} {ls : List (List UInt8)} (h : StoIn B W x rs ls) (hs : Ld.St ls) : rs.length = 34 := by
  have := hs.2
  rw [← h.eq, List.length_map] at this
  exact this
theorem StoIn.l54 {B : Nat} {W : World} {x : Option Addr} {rs : List Rw} {ls : List (List UInt8)} (h : StoIn B W x rs ls) (hs : Ld.St ls) : ∀ r, r ∈ rs → r.l.length ≤ 100000 := fun r hr => by
  have := ((vldS_iff _).1 hs.1).2 r.l (by rw [← h.eq]; exact List.mem_map_of_mem hr)
  omega
theorem rowOf_some {x : Option Addr} {p : Addr} (h : x = some p) : RowOf x p.block := by subst h; rfl
theorem ownsS_sto {B : Nat} {W : World} {x : Option Addr} {c : Nat} {rs : List Rw} {ls : List (List UInt8)} (h : OwnsS B W x c rs) (e : rs.map (·.l) = ls) : StoIn B W x rs ls :=
  ⟨h.rws, e, fun _p hp => (h.row.low _ (rowOf_some hp)).1, fun r hr _p hp => ((h.each r hr).low _ (rowOf_some hp)).1⟩
theorem ownsN_sto {B : Nat} {W : World} {x : Option Addr} {c : Nat} {rs : List Rw} (h : OwnsN B W x c rs) : StoIn B W x rs (List.replicate rs.length erasedL) :=
  ⟨h.rws, h.ls, fun _p hp => (h.row.low _ (rowOf_some hp)).1, fun r hr _p hp => ((h.each r hr).low _ (rowOf_some hp)).1⟩

theorem new34 (w : World) : Calls Tryz.prog 21 #[.int .i64 34] w fun e w' => ∃ x c rs, e = .returned (.tuple #[.agg #[.slice x 34 c], .int .i64 0]) ∧ StoIn w.heap.size w' x rs (List.replicate 34 erasedL) ∧ Below w.heap.size w w' := by
  refine (new_yes 34 w (by omega)).mono ?_
  rintro e w' ⟨x, c, rs, rfl, hl, ho, hb⟩
  have := ownsN_sto ho
  rw [hl] at this ⊢
  exact ⟨x, c, rs, rfl, this, hb⟩
def RnR (t : Ld.Sw) (a : Nat) (w : World) (e : Ending) (w' : World) : Prop := ∃ sa, e = .returned (.tuple #[aggN 23 (softV t sa), .int .i64 (a : Int), .int .i64 0]) ∧ SwIn w' t sa ∧ SwNew w.heap.size sa ∧ Below w.heap.size w w'
theorem rn_r {B : Nat} {x : Option Addr} {rs : List Rw} {ls : List (List UInt8)} {root : D64} {g : Int} {a : Nat} {r : Ld.Rec} {t : Ld.Sw} (c : Nat) (w : World) (h : StoIn B w x rs ls) (hr : Ld.Run ls root g a r t) :
    Calls Tryz.prog 17 #[.agg #[.slice x 34 c], .int .u64 (num root), .int .i64 g] w (RnR t a w) := by
  have hl := h.len hr.st
  obtain ⟨e1, e2, e3⟩ := Ld.rn_run hr
  have := running2_any x rs c root g w h.rws (by omega)
  rw [hl, h.eq] at this
  unfold RnOf at this
  rw [e1, e2, e3] at this
  exact this
def RnI (w : World) (e : Ending) (w' : World) : Prop := ∃ sa, e = .returned (.tuple #[aggN 23 (softV zSw sa), .int .i64 (-1), .int .i64 6]) ∧ SwIn w' zSw sa ∧ SwNew w.heap.size sa ∧ Below w.heap.size w w'
theorem rn_i {B : Nat} {x : Option Addr} {rs : List Rw} {ls : List (List UInt8)} {root : D64} {g : Int} (c : Nat) (w : World) (h : StoIn B w x rs ls) (hr : Ld.Idle ls) :
    Calls Tryz.prog 17 #[.agg #[.slice x 34 c], .int .u64 (num root), .int .i64 g] w (RnI w) := by
  have hl := h.len hr.st
  obtain ⟨e1, e2, e3⟩ := Ld.rn_idle hr root g
  have := running2_any x rs c root g w h.rws (by omega)
  rw [hl, h.eq] at this
  unfold RnOf at this
  rw [e1, e2, e3] at this
  exact this
/-- Install returns operations. -/
def InsR (ls : List (List UInt8)) (s : Ld.Sw) (root : D64) (g : Int) (n : Nat) (w : World) (e : Ending) (w' : World) : Prop := ∃ y cy os, e = .returned (.tuple #[.slice y n cy, .int .i64 0]) ∧ OwnsOp w.heap.size w' y cy os ∧ os.length = n ∧ os.map Ld.opP = Ld.insP ls s root g ∧ Below w.heap.size w w'
theorem ins_r {B : Nat} {x : Option Addr} {rs : List Rw} {ls : List (List UInt8)} {root : D64} {g : Int} {s : Ld.Sw} (c : Nat) (sa : SwA) (w : World) (h : StoIn B w x rs ls) (hs : Ld.St ls) (hi : SwIn w s sa) (h0 : Ld.cdI ls s root g = 0) :
    Calls Tryz.prog 19 #[.agg #[.slice x 34 c], aggN 23 (softV s sa), .int .u64 (num root), .int .i64 g] w (InsR ls s root g (Ld.ckN (Ld.form s) + 1) w) := by
  have hl := h.len hs
  have := install_any x rs c s sa root g w h.rws (by omega) hi
  rw [hl, h.eq] at this
  refine this.mono ?_
  rintro e w' ⟨y, cy, os, rfl, ho, hm, hb⟩
  have hm2 := hm
  unfold Ld.insP at hm2
  rw [if_pos h0] at hm2
  have hn := (Ld.ops_at hm2).1
  refine ⟨y, cy, os, by rw [h0, hn], ho, hn, hm, hb⟩
/-- Install returns an error. -/
def InsE (z : Int) (w : World) (e : Ending) (w' : World) : Prop := ∃ y cy, e = .returned (.tuple #[.slice y 0 cy, .int .i64 z]) ∧ Below w.heap.size w w'
theorem ins_e (x : Option Addr) (rs : List Rw) (root : D64) (g : Int) (s : Ld.Sw) (c : Nat) (sa : SwA) (w : World) (h : Rws w x rs) (hn : rs.length ≤ 1000) (hi : SwIn w s sa) (z : Int) (h0 : Ld.cdI (rs.map (·.l)) s root g = z) (hz : z ≠ 0) :
    Calls Tryz.prog 19 #[.agg #[.slice x rs.length c], aggN 23 (softV s sa), .int .u64 (num root), .int .i64 g] w (InsE z w) := by
  refine (install_any x rs c s sa root g w h hn hi).mono ?_
  rintro e w' ⟨y, cy, os, rfl, ho, hm, hb⟩
  unfold Ld.insP at hm
  rw [h0, if_neg hz] at hm
  have : os = [] := by simpa using hm
  subst this
  exact ⟨y, cy, by rw [h0]; rfl, hb⟩
theorem ins_e34 {B : Nat} {x : Option Addr} {rs : List Rw} {ls : List (List UInt8)} {root : D64} {g : Int} {s : Ld.Sw} (c : Nat) (sa : SwA) (w : World) (h : StoIn B w x rs ls) (hs : Ld.St ls) (hi : SwIn w s sa) {z : Int} (h0 : Ld.cdI ls s root g = z) (hz : z ≠ 0) :
    Calls Tryz.prog 19 #[.agg #[.slice x 34 c], aggN 23 (softV s sa), .int .u64 (num root), .int .i64 g] w (InsE z w) := by
  have hl := h.len hs
  have := ins_e x rs root g s c sa w h.rws (by omega) hi z (by rw [h.eq]; exact h0) hz
  rw [hl] at this
  exact this
theorem OwnsOp.caps {B : Nat} {w : World} {x : Option Addr} {cap : Nat} {os : List OpV} (h : OwnsOp B w x cap os) : os.length ≤ cap ∧ cap ≤ 9223372036854775807 := h.row.le_cap
/-- A store that a call returns. -/
def StR (ls : List (List UInt8)) (w : World) (e : Ending) (w' : World) : Prop := ∃ x c rs, e = .returned (.tuple #[.agg #[.slice x 34 c], .int .i64 0]) ∧ StoIn w.heap.size w' x rs ls ∧ Below w.heap.size w w'
theorem run34 {B B' : Nat} {x y : Option Addr} {rs : List Rw} {ls : List (List UInt8)} {os : List OpV} {cy : Nat} (c n : Nat) (w : World) (h : StoIn B w x rs ls) (hs : Ld.St ls) (ho : OwnsOp B' w y cy os) (hn : os.length = n) (hm : n ≤ 1000) (hv : vldO ls os = true) :
    Calls Tryz.prog 24 #[.agg #[.slice x 34 c], .slice y n cy] w (StR (runL ls os) w) := by
  subst hn
  have hl := h.len hs
  have := run_any x rs c y os cy w h.rws (by omega) (h.l54 hs) ho.ops ho.none_cap hm ho.caps
  rw [hl, h.eq, if_pos hv, if_pos hv] at this
  refine this.mono ?_
  rintro e w' ⟨x', c', rs', rfl, hos, he, hb⟩
  have hl' : rs'.length = 34 := by
    have := congrArg List.length he
    rw [List.length_map, runL_len, hs.2] at this
    exact this
  exact ⟨x', c', rs', by rw [hl'], ownsS_sto hos he, hb⟩
end Go.Proofs.YtapefonhgkjgnaaGreat
