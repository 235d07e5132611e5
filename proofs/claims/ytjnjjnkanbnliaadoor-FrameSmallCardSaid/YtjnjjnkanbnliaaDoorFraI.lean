/- WALKS of the frame layer: the iterator over the set bits of a mask. -/
import Derived.Test.YtjnjjnkanbnliaaDoorFraH
import Derived.Test.YtjnjjnkanbnliaaDoorRangeR
import Derived.Test.YtjnjjnkanbnliaaDoorRegionR
namespace Go.Proofs.YtjnjjnkanbnliaaDoor
open Go.RowKit

attribute [local go_sem] Oper.semAt_some

def SetRel (m : W32) (bx len : Nat) (J : Nat → List Nat → World → Prop) (g : Nat) (wr : World) : Prop :=
  ∃ (k : Nat) (S : List Nat) (j : Nat), g + k = len ∧ j ≤ 32 ∧ (Crc.bitsF m 0).drop k = Crc.bitsF m j ∧ J k S wr ∧ wr.cell? ⟨bx, 0, none⟩ = some (.int .u32 (n32 (Crc.restF m j))) ∧ wr.frozen? ⟨bx, 0, none⟩ = false ∧ DbAt wr
theorem drop_getD (l : List Nat) (k : Nat) (h : k < l.length) : l.drop k = l.getD k 0 :: l.drop (k + 1) := by
  rw [List.drop_eq_getElem_cons h, List.getD_eq_getElem?_getD, List.getElem?_eq_getElem h]; rfl

set_option maxHeartbeats 1000000 in
theorem set1_in (n : Nat) (hn : 1 ≤ n) (bx : Nat) (m : W32) (w : World) (hx : w.cell? ⟨bx, 0, none⟩ = some (.int .u32 (n32 m))) (hf : w.frozen? ⟨bx, 0, none⟩ = false) (hd : DbAt w) (hb0 : ¬ bx = 0) :
    YieldsR n Tryd.prog 47 #[.pointer (some ⟨bx, 0, none⟩)] (fun t : Nat => #[.int .i64 (t : Int)]) (Crc.bitsF m 0).length (fun i => (Crc.bitsF m 0).getD i 0) True (fun b => b = bx) (fun b => b = 0) w := by
  intro l J Jx S0 W hW hl0 hl hJ hJx hS hst hY h0
  have hx1 := hW.cell (fun e => e) hx
  have hf1 := hW.frozen (p := ⟨bx, 0, none⟩) (fun e => e) (World.block_lt_of_cell? _ _ hx) hf
  have hd1 : DbAt W := Bts.turn hd hW (fun _ _ e => e)
  have hbl : bx < w.heap.size := World.block_lt_of_cell? _ _ hx
  have hbl2 : ¬ bx = l := by omega
  have h0l : ¬ 0 = l := by omega
  obtain ⟨len, hlen⟩ : ∃ len, (Crc.bitsF m 0).length = len := ⟨_, rfl⟩
  rw [hlen] at hst hY ⊢
  have HLEN := Lib.hid hlen
  clear hlen hx hf hd hst
  refine callsIn_of_wp Tryd.func47 rfl trivial ?_ rfl
  simp only [Tryd.ntmps47, List.size_toArray, List.length_cons, List.length_nil, Nat.reduceAdd, Nat.reduceSub, Array.replicate_succ, Array.replicate_zero, List.push_toArray, List.append_toArray, List.nil_append, List.cons_append]
  gi_wp2_with fail
  gi_loopg [3] len (fun g u3 wr => SetRel m bx len J g wr)
  case atStart => exact ⟨0, S0, 0, rfl, by omega, rfl, h0, by rw [Crc.restF_zero]; exact hx1, hf1, hd1⟩
  case round =>
    clear hx1 hf1 hd1 h0
    obtain ⟨k, S, j, hg, hj, hdr, hjk, hx, hf, hd⟩ := hrel
    have hS1 := hS _ _ _ hjk
    have hbs : ¬ bx ∈ S := fun e => (hS1 _ e).2.1 rfl
    have h0s : ¬ 0 ∈ S := fun e => (hS1 _ e).2.2 rfl
    by_cases hk : k < len
    · have hdk := drop_getD (Crc.bitsF m 0) k (by rw [HLEN.out]; exact hk)
      obtain ⟨t, ht⟩ : ∃ t, (Crc.bitsF m 0).getD k 0 = t := ⟨_, rfl⟩
      rw [ht, hdr] at hdk
      obtain ⟨r, hr⟩ : ∃ r, (Crc.bitsF m 0).drop (k + 1) = r := ⟨_, rfl⟩
      rw [hr] at hdk
      obtain ⟨_, ht32, _, _, hr2⟩ := Crc.bitsF_cons m _ j rfl hj t r hdk
      have hne : (n32 (Crc.restF m j) != 0) = true := by
        rw [show (0 : Int) = n32 0#32 by decide, n32_ne]; simpa using Crc.restF_ne m j t r hj hdk
      have htz := fun W hW => tz_any m j t r W hj hdk hW
      have hcl := Crc.clear_one m j t r hj hdk
      have hYk := fun W1 => hY k S W1 hk
      simp only [ht] at hYk
      have HR : Hid ((Crc.bitsF m 0).drop (k + 1) = Crc.bitsF m (t + 1)) := by show _ = _; rw [hr, hr2]
      obtain ⟨x, hxx⟩ : ∃ x, Crc.restF m j = x := ⟨_, rfl⟩
      rw [hxx] at hne htz hcl hx
      have e1 := sub32_1 x
      have e2 : bits .and .u32 (n32 x) (n32 (x - 1#32)) = n32 (Crc.restF m (t + 1)) := by rw [u32_and, hcl]
      obtain ⟨y, hy⟩ : ∃ y, Crc.restF m (t + 1) = y := ⟨_, rfl⟩
      rw [hy] at e2
      have HY := Lib.hid hy
      obtain ⟨fn, tmps, assign, body, hyy, hR⟩ := hYk wr hjk
      have HT := Lib.hid htz
      have HE1 := Lib.hid e1
      have HE2 := Lib.hid e2
      clear hdk ht hdr hr hr2 hcl hYk hY hxx hy htz e1 e2
      gi_wp2_with (refine ⟨trivial, ?_⟩; gi_at_call 48; refine (callsIn_wide.2 (HT.out _ hd)).mono ?_; rintro e w1 ⟨rfl, hw⟩; obtain rfl : wr = w1 := hw.symm)
      refine hR.mono ?_
      rintro e W' ⟨S', hs1, htt, (⟨rfl, hj3⟩ | ⟨rfl, hj3⟩)⟩
      · have hw := fun (b : Nat) (h0 : ¬ b ∈ S) (h1 : ¬ b = l) => show ¬ (b ∈ S ∨ b = l) from fun h => h.elim h0 h1
        have hxs : bx < wr.heap.size := World.block_lt_of_cell? _ _ hx
        have hx2 := htt.cell (p := ⟨bx, 0, none⟩) (hw _ hbs hbl2) hx
        have hf2 := htt.frozen (p := ⟨bx, 0, none⟩) (hw _ hbs hbl2) hxs hf
        have hd2 : DbAt W' := Bts.turn hd htt (fun a e => by cases e; exact hw _ h0s h0l)
        have e1 := HE1.out
        have e2 := HE2.out
        clear hyy hR hx hf hd HT hS1
        gi_wp2_with fail
        gi_roundg (gk - 1)
        case measure => omega
        case rel =>
          refine ⟨k + 1, S', t + 1, by omega, by omega, HR.out, hJ _ _ _ _ hj3 (Turns.setCell (T := fun b => b = bx) (p := ⟨bx, 0, none⟩) (Turns.refl _ _) (fun _ => rfl) _), ?_, ?_, ?_⟩
          · rw [HY.out]; exact World.cell?_setCell_same' _ _ _ (by rw [hx2]; rfl)
          · rw [World.frozen?_setCell]; exact hf2
          · exact Bts.turn hd2 ((Turns.refl (fun b => b = bx) _).setCell (p := ⟨bx, 0, none⟩) (fun _ => rfl) _) (fun a e => by cases e; exact fun e => hb0 e.symm)
      · clear hyy hR hx hf hd HT hS1
        gi_wp2_with fail
        refine bodyPost_ret (results_none rfl _ _ _) rfl ?_
        exact ⟨⟨_, rfl⟩, .inr ⟨k, S', hk, hj3⟩⟩
    · obtain rfl : k = len := by omega
      have hnil : Crc.bitsF m j = [] := by rw [← hdr, List.drop_eq_nil_iff, HLEN.out]; omega
      have hz := Crc.restF_nil m j hj hnil
      have hne : (n32 (Crc.restF m j) != 0) = false := by rw [hz]; decide
      clear hz hnil hdr hY
      gi_wp2_with fail
      go_end0
      exact ⟨⟨_, rfl⟩, .inl ⟨_, hjk⟩⟩

end Go.Proofs.YtjnjjnkanbnliaaDoor
