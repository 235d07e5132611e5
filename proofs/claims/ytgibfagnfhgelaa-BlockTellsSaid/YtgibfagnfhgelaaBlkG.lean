/- WALKS of the block layer: steps, an iterator. -/
import Derived.Test.YtgibfagnfhgelaaPureBlk
import Derived.Test.YtgibfagnfhgelaaRangeB
import Derived.Test.YtgibfagnfhgelaaRegionW
import Derived.LoopIn
import Derived.OwnWalkIn
import Derived.TacticsInMore
namespace Go.Proofs.Ytgibfagnfhgelaa
open Go.RowKit

theorem OwnsR.whole (B g : Nat) (w : World) (rs : List Rw) (C : Array Value) (hC : C = (rs.map encR).toArray) (hB : B ≤ w.heap.size) (hg : w.heap.size = g) (hl : rs.length ≤ 100000) : OwnsR B (w.alloc (.cells C 25)) (some ⟨g, 0, none⟩) rs.length rs := by
  subst hg hC
  have hm : rs.length ≤ maxLen := by unfold maxLen; omega
  exact ⟨by simp, .inr ⟨w.heap.size, rs.length, (rs.map encR).toArray, rfl, hB, heap_alloc_new w _, Nat.le_refl _, hm, by simp, by simp [List.take_of_length_le]⟩⟩
section
variable {w : World} {o : Oper} {a : Act} {Q : Exit → Act → World → Prop} {n : Nat}
/-- append of one slice to a full row: a new row. -/
theorem wpListIn_appR_full {ops : Array Oper} {rest : List Oper} (hg : o.guard = none) (s x : Operand) (ho : o.op = .call { callee := .builtin .append, args := #[s, x], argTypes := #[22, 22] })
    {ga cap : Nat} {rs : List Rw} (hown : CellsR w (some ⟨ga, 0, none⟩) rs) (hs : a.eval s = .slice (some ⟨ga, 0, none⟩) rs.length cap) (hf : cap < rs.length + 1)
    {ad : Addr} {u : Rw} {c : Nat} (hx : a.eval x = .slice (some ad) 1 c) (hy : w.cell? (ad.add 0) = some (encR u)) (hl : rs.length ≤ 100000)
    (h : ∀ x' cap' w', OwnsR w.heap.size w' x' cap' (rs ++ [u]) → Turns (fun _ => False) w w' → wpListIn Fence.wide n Try.prog ops Q rest (a.put o.dst (.slice x' (rs ++ [u]).length cap')) w') : wpListIn Fence.wide n Try.prog ops Q (o :: rest) a w := by
  obtain ⟨i0, hi, hz0, hz1, hz2⟩ := info_parts infoSl
  obtain ⟨v', w', hrun, r1, r2⟩ := run_append_arg_grows (P := Try.prog) w 22 o.type 25 i0 (.slice none 0 0) 1 24 Try.underlying22 hi hz0 hz1 hz2 rfl (by decide) ⟨ga, 0, none⟩ rs.length cap (rs.map encR) (by simp) (fun j v hj => by
    rcases hown with h | ⟨b, o, hx, hc⟩
    · subst h; simp at hj
    · cases hx
      have hjl : j < rs.length := by
        rcases Nat.lt_or_ge j rs.length with h | h
        · exact h
        · simp [List.getElem?_eq_none h] at hj
      have hplain : (⟨ga, 0, none⟩ : Addr).add j = ⟨ga, 0 + j, none⟩ := by unfold Addr.add; split <;> simp_all
      rw [hplain, hc j hjl]
      simp [List.getElem?_eq_getElem hjl] at hj
      simp [List.getElem?_eq_getElem hjl, hj]) ad 1 c [encR u] (by simp) (fun j v hj => by
    match j, hj with
    | 0, hj => simp at hj; subst hj; exact hy
    | j + 1, hj => simp at hj) hf (by unfold maxLen; omega) (by omega)
  obtain ⟨x', cap', rfl⟩ := owns_form r1
  have hlen : rs.length + 1 = (rs ++ [u]).length := by simp
  have hmp : rs.map encR ++ [encR u] = (rs ++ [u]).map encR := by simp
  rw [hlen, hmp] at r1
  rw [hlen] at hrun
  have hK := h x' cap' w' r1 (Turns.of_grownBy r2 (fun b e => by cases e))
  exact wpListIn_plain hg fun K hK' => op_inW (by
    unfold Oper.wp
    simp [execOp, ho, resolve, invoke, builtin, hs, hx, hrun, Result.andThen]
    have := hK' _ _ hK
    rw [List.length_append] at this
    exact this)
end
def PhRel (np N0 N1 : Nat) (W2 : World) (J : Nat → List Nat → World → Prop) (u : Value) (wr : World) : Prop :=
  ∃ (p : Nat) (S : List Nat), p ≤ np ∧ u = .int .i64 (p : Int) ∧ J (54 * p) S wr ∧ (∀ b, b ∈ S → b < N0 ∨ N1 ≤ b) ∧ Turns (fun b => b < N0 ∨ N1 ≤ b) W2 wr
theorem Bts.cell0 {w : World} {g : Nat} {l : List UInt8} (h : Bts w (some ⟨g, 0, none⟩) l) (i : Nat) (hi : i < l.length) : w.cell? ⟨g, i, none⟩ = some (.int .u8 ((l.getD i 0).toNat : Int)) := by
  rcases h with h | ⟨b, o, hx, hc⟩
  · subst h; simp at hi
  · cases hx
    have := hc i hi
    rwa [Nat.zero_add] at this
def InRel54 (q N0 N1 : Nat) (W2 : World) (J : Nat → List Nat → World → Prop) (u : Value) (wr : World) : Prop :=
  ∃ (i : Nat) (S : List Nat), i ≤ 54 ∧ u = .int .i64 (i : Int) ∧ J (q + i) S wr ∧ (∀ b, b ∈ S → b < N0 ∨ N1 ≤ b) ∧ Turns (fun b => b < N0 ∨ N1 ≤ b) W2 wr
set_option maxHeartbeats 1000000 in
theorem steps_any (o : OpV) (w : World) : Calls Try.prog 35 #[.agg #[.int .i64 o.blk, .bool o.er, .slice o.x o.d.length o.c]] w fun e w' => ∃ g, e = .returned (.func (.func 43) #[] #[.pointer (some ⟨g, 0, none⟩)]) ∧ g = w.heap.size ∧ w' = w.alloc (.cells #[.int .i64 o.blk, .bool o.er, .slice o.x o.d.length o.c] 31) := by
  go_enter Try.func35, Try.ntmps35
  go_wp2_with fail
  go_ret
  exact ⟨_, rfl, rfl, rfl⟩
set_option maxRecDepth 100000 in
set_option maxHeartbeats 2000000 in
theorem steps_er (n : Nat) (hn : 1 ≤ n) (bo : Nat) (d : List UInt8) (w : World) (h1 : w.cell? ⟨bo, 1, none⟩ = some (.bool true)) :
    Yields n Try.prog 43 #[.pointer (some ⟨bo, 0, none⟩)] (fun s : Nat × UInt8 => #[.agg #[.int .i64 (s.1 : Int), .int .u8 (s.2.toNat : Int)]]) 54 (stepA d) True (fun _ => False) w := by
  intro l J Jx S0 W hW hl0 hl hJ hJx hS hst hY hj0
  have k1 := hW.cell (fun e => e) h1
  obtain ⟨N0, hN0⟩ : ∃ N, W.heap.size = N := ⟨_, rfl⟩
  have hS0 : ∀ b, b ∈ S0 → b < N0 := fun b hb => by have := (hS 0 S0 W hj0 b hb).1; omega
  have hlN : l < N0 := by omega
  clear h1 hst
  refine callsIn_of_wp Try.func43 rfl trivial ?_ rfl
  simp only [Try.ntmps43, List.size_toArray, List.length_cons, List.length_nil, Nat.reduceAdd, Nat.reduceSub, Array.replicate_succ, Array.replicate_zero, List.push_toArray, List.append_toArray, List.nil_append, List.cons_append]
  gi_wp2_with (refine ⟨trivial, ?_⟩; gi_at_call 27; refine (callsIn_wide.2 (erased_any _)).mono ?_; rintro e w1 ⟨ge, rfl, hge, hgz, hbe, hshe, hb⟩; have k1b := later_lt hb (World.block_lt_of_cell? _ _ k1) k1; refine Hid.out ?_)
  unfold Hid
  have hsz1 := hb.size
  have hk1 : (w1.alloc (.cells #[.slice (some ⟨ge, 0, none⟩) 54 54] 25)).cell? ⟨bo, 1, none⟩ = some (.bool true) := later (al (Below.refl _ w1) _) k1b
  have hj1 := hJ _ _ _ _ hj0 (Turns.of_below hb (Nat.le_refl _))
  obtain ⟨W2, hW2⟩ : ∃ W2, w1.alloc (.cells #[.slice (some ⟨ge, 0, none⟩) 54 54] 25) = W2 := ⟨_, rfl⟩
  have hz2' : W2.heap.size = w1.heap.size + 1 := by rw [← hW2]; simp
  obtain ⟨gp, hgp⟩ : ∃ g, w1.heap.size = g := ⟨_, rfl⟩
  obtain ⟨N1, hN1⟩ : ∃ N, W2.heap.size = N := ⟨_, rfl⟩
  have hz2 : N1 ≤ W2.heap.size := by omega
  have hg1 : N0 ≤ gp := by omega
  have hg2 : gp < N1 := by omega
  have hbt2 : Below w1.heap.size w1 W2 := by rw [← hW2]; exact al (Below.refl _ w1) _
  obtain ⟨ph, hph⟩ : ∃ ph : List Rw, [⟨some ⟨ge, 0, none⟩, 54, erasedL⟩] = ph := ⟨_, rfl⟩
  have HJ3 : Hid (J (54 * 0) S0 W2) := hJ _ _ _ _ hj1 (Turns.of_below hbt2 (Nat.le_refl _))
  have HCE : Hid (∀ p, p < 1 → W2.cell? ⟨gp, p, none⟩ = some (encR (ph.getD p rw0))) := fun p hp => by
    obtain rfl : p = 0 := by omega
    rw [← hph, ← hW2, ← hgp]
    exact cell_new w1 _ _ _ 0
  have HPH : Hid (∀ p, p < 1 → ∃ gr, (ph.getD p rw0).x = some ⟨gr, 0, none⟩ ∧ N0 ≤ gr ∧ gr < N1 ∧ (ph.getD p rw0).l.length = 54 ∧ Bts W2 (some ⟨gr, 0, none⟩) (ph.getD p rw0).l) := fun p hp => by
    obtain rfl : p = 0 := by omega
    rw [← hph]
    exact ⟨ge, rfl, by omega, by omega, erasedL_len, hbe.later hbt2⟩
  have HST : Hid (∀ p i, p < 1 → i < 54 → stepA d (54 * p + i) = (i, (ph.getD p rw0).l.getD i 0)) := fun p i hp hi => by
    obtain rfl : p = 0 := by omega
    rw [← hph]
    unfold stepA
    rw [if_pos (by omega)]
    show _ = (i, erasedL.getD i 0)
    rw [erasedL_at i hi, Nat.mul_zero, Nat.zero_add]
  have hmid : ∀ b, N0 ≤ b → b < N1 → ¬ (b < N0 ∨ N1 ≤ b) := fun b h1 h2 h => by omega
  clear hj0 hj1 hbe hshe hb k1 k1b hbt2 hph hge hgz hsz1 hz2' hN1 hW hJ hl0 hl hN0 hS
  rw [hW2] at hk1
  gi_wp2_with fail
  clear hW2 hgp hk1

  gi_wp2_with fail
  gi_loopw [27] (fun u27 wr => PhRel 1 N0 N1 W2 J u27 wr) (fun u27 _ => 1 - (intOf u27).toNat)
  case atStart => exact ⟨0, S0, by omega, rfl, HJ3.out, fun b hb => .inl (hS0 b hb), Turns.refl _ _⟩
  case round =>
    obtain ⟨p, S, hp, rfl, hj, hs, ht⟩ := hrel
    by_cases hlt : p < 1
    · have d1 : decide ((p : Int) < 1) = true := by simp; omega
      obtain ⟨gr, hrx, hr1, hr2, hrl, hrb⟩ := HPH.out p hlt
      have hcp : wr.cell? ⟨gp, p, none⟩ = some (encR (ph.getD p rw0)) := ht.cell (hmid gp hg1 hg2) (HCE.out p hlt)
      obtain ⟨r, hrv⟩ : ∃ r, ph.getD p rw0 = r := ⟨_, rfl⟩
      have hstp : ∀ i, i < 54 → stepA d (54 * p + i) = (i, r.l.getD i 0) := fun i hi => by rw [← hrv]; exact HST.out p i hlt hi
      rw [hrv] at hrx hrl hcp hrb
      have hcp' : wr.cell? ⟨gp, p, none⟩ = some (.slice (some ⟨gr, 0, none⟩) 54 r.c) := by rw [hcp]; unfold encR; rw [hrx, hrl]
      have HRL := Lib.hid hrl
      have HSTP := Lib.hid hstp
      have HRB := Lib.hid hrb
      clear hcp hrv hrb hrl hrx hstp
      gi_wp2_with fail
      obtain ⟨wo, rfl⟩ : ∃ wo : World, wo = wr := ⟨_, rfl⟩
      gi_loopw [33] (fun u33 wi => InRel54 (54 * p) N0 N1 W2 J u33 wi) (fun u33 _ => 54 - (intOf u33).toNat)
      case atStart => exact ⟨0, S, by omega, rfl, hj, hs, ht⟩
      case round =>
        clear hj hs ht hcp'
        obtain ⟨i, S, hi, rfl, hj, hs, ht⟩ := hrel
        by_cases hit : i < 54
        · have e1 : decide ((i : Int) < 54) = true := by simp; omega
          have hri : wr.cell? ⟨gr, i, none⟩ = some (.int .u8 ((r.l.getD i 0).toNat : Int)) := ht.cell (hmid gr hr1 hr2) (HRB.out.cell0 i (by rw [HRL.out]; omega))
          obtain ⟨v, hv⟩ : ∃ v, r.l.getD i 0 = v := ⟨_, rfl⟩
          have hst := HSTP.out i hit
          rw [hv] at hst hri
          obtain ⟨fn, tmps, assign, body, hyy, hR⟩ := hY (54 * p + i) S wr (by omega) hj
          rw [hst] at hyy
          dsimp only at hyy
          clear hj hst hv
          gi_wp2_with fail
          refine hR.mono ?_
          have hs' : ∀ b, ¬ (b < N0 ∨ N1 ≤ b) → ¬ (b ∈ S ∨ b = l) := fun b hb h => by
            rcases h with h | h
            · exact hb (hs b h)
            · subst h; exact hb (.inl hlN)
          have hszw : N1 ≤ wr.heap.size := Nat.le_trans hz2 ht.size
          rintro e W' ⟨S', hs1, htt, (⟨rfl, hj3⟩ | ⟨rfl, hj3⟩)⟩
          · have hsn : ∀ b, b ∈ S' → b < N0 ∨ N1 ≤ b := fun b hb => by
              rcases hs1 b hb with h | h
              · exact hs b h
              · exact .inr (by omega)
            have htn : Turns (fun b => b < N0 ∨ N1 ≤ b) W2 W' := ht.trans (htt.mono (fun b _ h => Decidable.byContradiction fun hc => hs' b hc h))
            have HJ4 := Lib.hid hj3
            clear hyy hR hri hs ht htt hs1 hs' hj3
            gi_wp2_with fail
            go_roundw
            case rel => exact ⟨i + 1, S', by omega, by go_num, HJ4.out, hsn, htn⟩
            case measure => simp [intOf]; omega
          · clear hyy hR hri
            gi_wp2_with fail
            refine bodyPost_ret (results_none rfl _ _ _) rfl ?_
            exact ⟨⟨_, rfl⟩, .inr ⟨_, S', by omega, hj3⟩⟩
        · obtain rfl : i = 54 := by omega
          have HJ4 : Hid (J (54 * (p + 1)) S wr) := hj
          clear hj
          gi_wp2_with fail
          go_roundw
          case rel => exact ⟨p + 1, S, by omega, by go_num, HJ4.out, hs, ht⟩
          case measure => simp [intOf]; omega
    · obtain rfl : p = 1 := by omega
      gi_wp2_with fail
      go_end0
      exact ⟨⟨_, rfl⟩, .inl ⟨_, hj⟩⟩

end Go.Proofs.Ytgibfagnfhgelaa
