/- WALKS of the block layer: steps that write. -/
import Derived.Test.YtgibfagnfhgelaaBlkG
namespace Go.Proofs.Ytgibfagnfhgelaa
open Go.RowKit

set_option maxRecDepth 100000 in
set_option maxHeartbeats 2000000 in
theorem steps_wr (n : Nat) (hn : 1 ≤ n) (bo : Nat) (x : Option Addr) (d : List UInt8) (c : Nat) (w : World) (h1 : w.cell? ⟨bo, 1, none⟩ = some (.bool false)) (h2 : w.cell? ⟨bo, 2, none⟩ = some (.slice x d.length c)) (hx : Bts w x d) (hxn : x = none → c = 0) (hd : d.length ≤ 48) :
    Yields n Try.prog 43 #[.pointer (some ⟨bo, 0, none⟩)] (fun s : Nat × UInt8 => #[.agg #[.int .i64 (s.1 : Int), .int .u8 (s.2.toNat : Int)]]) 108 (stepA d) True (fun _ => False) w := by
  intro l J Jx S0 W hW hl0 hl hJ hJx hS hst hY hj0
  have k1 := hW.cell (fun e => e) h1
  have k2 := hW.cell (fun e => e) h2
  have kx := hx.turn hW (fun _ _ e => e)
  obtain ⟨N0, hN0⟩ : ∃ N, W.heap.size = N := ⟨_, rfl⟩
  have hS0 : ∀ b, b ∈ S0 → b < N0 := fun b hb => by have := (hS 0 S0 W hj0 b hb).1; omega
  have hlN : l < N0 := by omega
  clear h1 h2 hst hx
  refine callsIn_of_wp Try.func43 rfl trivial ?_ rfl
  simp only [Try.ntmps43, List.size_toArray, List.length_cons, List.length_nil, Nat.reduceAdd, Nat.reduceSub, Array.replicate_succ, Array.replicate_zero, List.push_toArray, List.append_toArray, List.nil_append, List.cons_append]
  gi_wp2_with (refine ⟨trivial, ?_⟩; gi_at_call 27; refine (callsIn_wide.2 (erased_any _)).mono ?_; rintro e w1 ⟨ge, rfl, hge, hgz, hbe, hshe, hb⟩; have k1b := later_lt hb (World.block_lt_of_cell? _ _ k1) k1; have k2b := later_lt hb (World.block_lt_of_cell? _ _ k2) k2; refine Hid.out ?_)
  unfold Hid
  have hsz1 := hb.size
  have kxb := kx.later hb
  have hk1 : (w1.alloc (.cells #[.slice (some ⟨ge, 0, none⟩) 54 54] 25)).cell? ⟨bo, 1, none⟩ = some (.bool false) := later (al (Below.refl _ w1) _) k1b
  have hk2 : (w1.alloc (.cells #[.slice (some ⟨ge, 0, none⟩) 54 54] 25)).cell? ⟨bo, 2, none⟩ = some (.slice x d.length c) := later (al (Below.refl _ w1) _) k2b
  have hkx : Bts (w1.alloc (.cells #[.slice (some ⟨ge, 0, none⟩) 54 54] 25)) x d := kxb.later (al (Below.refl _ w1) _)
  have hj1 := hJ _ _ _ _ hj0 (Turns.of_below hb (Nat.le_refl _))
  obtain ⟨Wa, hWa⟩ : ∃ W2, w1.alloc (.cells #[.slice (some ⟨ge, 0, none⟩) 54 54] 25) = W2 := ⟨_, rfl⟩
  have hza : Wa.heap.size = w1.heap.size + 1 := by rw [← hWa]; simp
  have hba : Below w1.heap.size w1 Wa := by rw [← hWa]; exact al (Below.refl _ w1) _
  have hoa : OwnsR N0 Wa (some ⟨w1.heap.size, 0, none⟩) 1 [⟨some ⟨ge, 0, none⟩, 54, erasedL⟩] := by rw [← hWa]; exact OwnsR.whole N0 w1.heap.size w1 _ _ rfl (by omega) rfl (by simp)
  have hjA := hJ _ _ _ _ hj1 (Turns.of_below hba (Nat.le_refl _))
  have hbeA := hbe.later hba
  obtain ⟨ga, hga⟩ : ∃ g, w1.heap.size = g := ⟨_, rfl⟩
  rw [hga] at hoa
  clear hj0 hj1 hbe hb k1 k1b k2 k2b kx kxb hba
  rw [hWa] at hk1 hk2 hkx
  gi_wp2_with (refine ⟨trivial, ?_⟩; gi_at_call 12; refine (callsIn_wide.2 (encode_yes x d c _ hkx hxn hd)).mono ?_; rintro e w2 ⟨xe, ce, rfl, ho, hb⟩; refine Hid.out ?_)
  unfold Hid
  have hzb := hb.size
  have hbeB := hbeA.later hb
  have hoaB : OwnsR N0 w2 (some ⟨ga, 0, none⟩) 1 [⟨some ⟨ge, 0, none⟩, 54, erasedL⟩] := hoa.turn (Turns.of_below hb (Nat.le_refl _)) (fun _ _ h => h)
  have hjB := hJ _ _ _ _ hjA (Turns.of_below hb (Nat.le_refl _))
  obtain ⟨gx, rfl⟩ := ho.some_of (by rw [encL_len d hd]; omega)
  have hgx := ho.low gx rfl
  have hEL := encL_len d hd
  have hoaC : ∀ ob, OwnsR N0 (w2.alloc ob) (some ⟨ga, 0, none⟩) 1 [⟨some ⟨ge, 0, none⟩, 54, erasedL⟩] := fun ob => hoaB.turn ((Turns.refl (fun _ => False) w2).alloc ob) (fun _ _ h => h)
  obtain ⟨r2, hr2⟩ : ∃ r : Rw, (⟨some ⟨gx, 0, none⟩, ce, encL d⟩ : Rw) = r := ⟨_, rfl⟩
  have hy2 : (w2.alloc (.cells #[.slice (some ⟨gx, 0, none⟩) 54 ce] 25)).cell? ⟨w2.heap.size, 0, none⟩ = some (encR r2) := by
    rw [cell_new, ← hr2]
    unfold encR
    rw [hEL]; rfl
  have hbx := ho.bts
  clear hoaB hoa hjA hbeA hWa hga hEL ho
  gi_wp2_with (gi_at_builtin; refine wpListIn_appR_full rfl _ _ rfl (rs := [⟨some ⟨ge, 0, none⟩, 54, erasedL⟩]) (OwnsR.cellsR (hoaC _)) rfl (by simp) (ad := ⟨w2.heap.size, 0, none⟩) (u := r2) rfl hy2 (by simp) ?_; intro x' cap' W2 h1 h2; refine Hid.out ?_)
  unfold Hid
  have h2s := h2.size
  have h2a : Turns (fun _ => False) w2 W2 := ((Turns.refl (fun _ => False) w2).alloc _).trans h2
  obtain ⟨gp, rfl⟩ := h1.some_of (by simp)
  have hgp := h1.low gp rfl
  rw [World.size_alloc] at h2s hgp
  obtain ⟨N1, hN1⟩ : ∃ N, W2.heap.size = N := ⟨_, rfl⟩
  have hz2 : N1 ≤ W2.heap.size := by omega
  have hg1 : N0 ≤ gp := by omega
  have hg2 : gp < N1 := by omega
  obtain ⟨ph, hph⟩ : ∃ ph : List Rw, [⟨some ⟨ge, 0, none⟩, 54, erasedL⟩] ++ [r2] = ph := ⟨_, rfl⟩
  rw [hph] at h1
  have HJ3 : Hid (J (54 * 0) S0 W2) := hJ _ _ _ _ hjB h2a
  have HCE : Hid (∀ p, p < 2 → W2.cell? ⟨gp, p, none⟩ = some (encR (ph.getD p rw0))) := fun p hp => by
    have hlen : ph.length = 2 := by rw [← hph]; rfl
    rcases h1.cellsR with h | ⟨b, o, hx, hc⟩
    · rw [h] at hlen; cases hlen
    · cases hx
      have := hc p (by omega)
      rwa [Nat.zero_add] at this
  have HPH : Hid (∀ p, p < 2 → ∃ gr, (ph.getD p rw0).x = some ⟨gr, 0, none⟩ ∧ N0 ≤ gr ∧ gr < N1 ∧ (ph.getD p rw0).l.length = 54 ∧ Bts W2 (some ⟨gr, 0, none⟩) (ph.getD p rw0).l) := fun p hp => by
    rw [← hph, ← hr2]
    rcases (by omega : p = 0 ∨ p = 1) with rfl | rfl
    · exact ⟨ge, rfl, by omega, by omega, erasedL_len, hbeB.turn h2a (fun _ _ h => h)⟩
    · exact ⟨gx, rfl, by omega, by omega, encL_len d hd, hbx.turn h2a (fun _ _ h => h)⟩
  have HST : Hid (∀ p i, p < 2 → i < 54 → stepA d (54 * p + i) = (i, (ph.getD p rw0).l.getD i 0)) := fun p i hp hi => by
    rw [← hph, ← hr2]
    unfold stepA
    rcases (by omega : p = 0 ∨ p = 1) with rfl | rfl
    · rw [if_pos (by omega)]
      show _ = (i, erasedL.getD i 0)
      rw [erasedL_at i hi, Nat.mul_zero, Nat.zero_add]
    · rw [if_neg (by omega)]
      show _ = (i, (encL d).getD i 0)
      rw [show 54 * 1 + i - 54 = i by omega]
  have hmid : ∀ b, N0 ≤ b → b < N1 → ¬ (b < N0 ∨ N1 ≤ b) := fun b h1 h2 h => by omega
  clear h1 h2 h2a h2s hgp hph hr2 hjB hbeB hbx hoaC hgx hzb hge hgz hsz1 hza hN1 hW hJ hl0 hl hN0 hS hy2 hshe hk1 hk2 hkx hxn

  gi_wp2_with fail
  gi_loopw [27] (fun u27 wr => PhRel 2 N0 N1 W2 J u27 wr) (fun u27 _ => 2 - (intOf u27).toNat)
  case atStart => exact ⟨0, S0, by omega, rfl, HJ3.out, fun b hb => .inl (hS0 b hb), Turns.refl _ _⟩
  case round =>
    obtain ⟨p, S, hp, rfl, hj, hs, ht⟩ := hrel
    by_cases hlt : p < 2
    · have d1 : decide ((p : Int) < 2) = true := by simp; omega
      obtain ⟨gr, hrx, hr1, hr2, hrl, hrb⟩ := HPH.out p hlt
      have hcp : wr.cell? ⟨gp, p, none⟩ = some (encR (ph.getD p rw0)) := ht.cell (hmid gp hg1 hg2) (HCE.out p hlt)
      obtain ⟨r, hrv⟩ : ∃ r, ph.getD p rw0 = r := ⟨_, rfl⟩
      have hstp : ∀ i, i < 54 → stepA d (54 * p + i) = (i, r.l.getD i 0) := fun i hi => by rw [← hrv]; exact HST.out p i hlt hi
      rw [hrv] at hrx hrl hcp hrb
      have hcp' : wr.cell? ⟨gp, p, none⟩ = some (.slice (some ⟨gr, 0, none⟩) 54 r.c) := by rw [hcp]; unfold encR; rw [hrx, hrl]
      have HRL := Lib.hid hrl
      have HSTP := Lib.hid hstp
      have HRB := Lib.hid hrb
      clear hcp hrv hrb hrl hrx hstp
      gi_wp2_with fail
      obtain ⟨wo, rfl⟩ : ∃ wo : World, wo = wr := ⟨_, rfl⟩
      gi_loopw [33] (fun u33 wi => InRel54 (54 * p) N0 N1 W2 J u33 wi) (fun u33 _ => 54 - (intOf u33).toNat)
      case atStart => exact ⟨0, S, by omega, rfl, hj, hs, ht⟩
      case round =>
        clear hj hs ht hcp'
        obtain ⟨i, S, hi, rfl, hj, hs, ht⟩ := hrel
        by_cases hit : i < 54
        · have e1 : decide ((i : Int) < 54) = true := by simp; omega
          have hri : wr.cell? ⟨gr, i, none⟩ = some (.int .u8 ((r.l.getD i 0).toNat : Int)) := ht.cell (hmid gr hr1 hr2) (HRB.out.cell0 i (by rw [HRL.out]; omega))
          obtain ⟨v, hv⟩ : ∃ v, r.l.getD i 0 = v := ⟨_, rfl⟩
          have hst := HSTP.out i hit
          rw [hv] at hst hri
          obtain ⟨fn, tmps, assign, body, hyy, hR⟩ := hY (54 * p + i) S wr (by omega) hj
          rw [hst] at hyy
          dsimp only at hyy
          clear hj hst hv
          gi_wp2_with fail
          refine hR.mono ?_
          have hs' : ∀ b, ¬ (b < N0 ∨ N1 ≤ b) → ¬ (b ∈ S ∨ b = l) := fun b hb h => by
            rcases h with h | h
            · exact hb (hs b h)
            · subst h; exact hb (.inl hlN)
          have hszw : N1 ≤ wr.heap.size := Nat.le_trans hz2 ht.size
          rintro e W' ⟨S', hs1, htt, (⟨rfl, hj3⟩ | ⟨rfl, hj3⟩)⟩
          · have hsn : ∀ b, b ∈ S' → b < N0 ∨ N1 ≤ b := fun b hb => by
              rcases hs1 b hb with h | h
              · exact hs b h
              · exact .inr (by omega)
            have htn : Turns (fun b => b < N0 ∨ N1 ≤ b) W2 W' := ht.trans (htt.mono (fun b _ h => Decidable.byContradiction fun hc => hs' b hc h))
            have HJ4 := Lib.hid hj3
            clear hyy hR hri hs ht htt hs1 hs' hj3
            gi_wp2_with fail
            go_roundw
            case rel => exact ⟨i + 1, S', by omega, by go_num, HJ4.out, hsn, htn⟩
            case measure => simp [intOf]; omega
          · clear hyy hR hri
            gi_wp2_with fail
            refine bodyPost_ret (results_none rfl _ _ _) rfl ?_
            exact ⟨⟨_, rfl⟩, .inr ⟨_, S', by omega, hj3⟩⟩
        · obtain rfl : i = 54 := by omega
          have HJ4 : Hid (J (54 * (p + 1)) S wr) := hj
          clear hj
          gi_wp2_with fail
          go_roundw
          case rel => exact ⟨p + 1, S, by omega, by go_num, HJ4.out, hs, ht⟩
          case measure => simp [intOf]; omega
    · obtain rfl : p = 2 := by omega
      gi_wp2_with fail
      go_end0
      exact ⟨⟨_, rfl⟩, .inl ⟨_, hj⟩⟩

theorem steps_in (n : Nat) (hn : 1 ≤ n) (bo : Nat) (er : Bool) (x : Option Addr) (d : List UInt8) (c : Nat) (w : World) (h1 : w.cell? ⟨bo, 1, none⟩ = some (.bool er)) (h2 : w.cell? ⟨bo, 2, none⟩ = some (.slice x d.length c)) (hx : Bts w x d) (hxn : x = none → c = 0) (hd : d.length ≤ 48) :
    Yields n Try.prog 43 #[.pointer (some ⟨bo, 0, none⟩)] (fun s : Nat × UInt8 => #[.agg #[.int .i64 (s.1 : Int), .int .u8 (s.2.toNat : Int)]]) (lenO er) (stepA d) True (fun _ => False) w := by
  cases er
  · exact steps_wr n hn bo x d c w h1 h2 hx hxn hd
  · exact steps_er n hn bo d w h1

end Go.Proofs.Ytgibfagnfhgelaa
