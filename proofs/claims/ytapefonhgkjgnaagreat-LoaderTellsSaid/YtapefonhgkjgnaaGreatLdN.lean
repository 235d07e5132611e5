/- WALKS of the loader: the chunks of a form, handed out by an iterator. -/
import Derived.Test.YtapefonhgkjgnaaGreatLdM
set_option maxRecDepth 20000
namespace Go.Proofs.YtapefonhgkjgnaaGreat
open Go.RowKit

theorem chunks_any (x : Option Addr) (n c : Nat) (w : World) : Calls Tryz.prog 46 #[.slice x n c] w fun e w' => e = .returned (.func (.func 82) #[] #[.pointer (some ⟨w.heap.size, 0, none⟩)]) ∧ w' = w.alloc (.cells #[.slice x n c] 22) := by
  go_enter Tryz.func46, Tryz.ntmps46
  go_wp2_with fail
  go_ret
  exact ⟨rfl, rfl⟩
def ckV (f : List UInt8) (g c : Nat) (v : Nat) : Array Value := #[.int .i64 (v : Int), .slice (some ⟨g, 48 * v, none⟩) (Ld.ck f v).length (c - 48 * v)]
/-- What the iterator keeps: the rest of the form in its box. -/
def CkRel (L g c bx : Nat) (m : Nat) (J : Nat → List Nat → World → Prop) (u3 : Value) (wr : World) : Prop :=
  ∃ (k : Nat) (S : List Nat) (xa : Option Addr) (ca q : Nat), k ≤ m ∧ u3 = .int .i64 (k : Int) ∧ J k S wr ∧ q = L - 48 * k ∧ wr.cell? ⟨bx, 0, none⟩ = some (.slice xa q ca) ∧ wr.frozen? ⟨bx, 0, none⟩ = false ∧ (0 < q → xa = some ⟨g, 48 * k, none⟩ ∧ ca = c - 48 * k) ∧ ¬ bx ∈ S
theorem chunks1_in (n : Nat) (hn : 1 ≤ n) (bx g : Nat) (f : List UInt8) (c : Nat) (w : World) (hx : w.cell? ⟨bx, 0, none⟩ = some (.slice (some ⟨g, 0, none⟩) f.length c)) (hfz : w.frozen? ⟨bx, 0, none⟩ = false) (hc : f.length ≤ c ∧ c ≤ 9223372036854775807) (hf : f.length ≤ 625) :
    Yields n Tryz.prog 82 #[.pointer (some ⟨bx, 0, none⟩)] (ckV f g c) (Ld.ckN f) (fun k => k) True (fun b => b = bx) w := by
  intro l J Jx S0 W hW hl0 hl hJ hJx hS hst hY h0
  have hx1 := hW.cell (fun e => e) hx
  have hbx := World.block_lt_of_cell? _ _ hx
  simp only at hbx
  have hf1 := hW.frozen (p := ⟨bx, 0, none⟩) (fun e => e) hbx hfz
  have hbl2 : ¬ bx = l := by omega
  have HCK : Hid (∀ k, (Ld.ck f k).length = min 48 (f.length - 48 * k)) := fun k => by unfold Ld.ck; rw [List.length_take, List.length_drop]
  have HN : Hid (Ld.ckN f = (f.length + 47) / 48) := rfl
  unfold ckV at hY
  obtain ⟨L, hL⟩ : ∃ L, f.length = L := ⟨_, rfl⟩
  rw [hL] at hx1 hc hf HCK HN
  obtain ⟨m, hm⟩ : ∃ m, Ld.ckN f = m := ⟨_, rfl⟩
  rw [hm] at HN hst hY ⊢
  have hM : m * 48 ≥ L ∧ m * 48 < L + 48 := by have := HN.out; omega
  clear HN hx hfz hL hm hst
  refine callsIn_of_wp Tryz.func82 rfl trivial ?_ rfl
  simp only [Tryz.ntmps82, List.size_toArray, List.length_cons, List.length_nil, Nat.reduceAdd, Nat.reduceSub, Array.replicate_succ, Array.replicate_zero, List.push_toArray, List.append_toArray, List.nil_append, List.cons_append]
  gi_wp2_with fail
  gi_loopw [3] (fun u3 wr => CkRel L g c bx m J u3 wr) (fun u3 _ => m - (intOf u3).toNat)
  case atStart => exact ⟨0, S0, some ⟨g, 0, none⟩, c, L, by omega, rfl, h0, by omega, hx1, hf1, fun _ => ⟨rfl, by omega⟩, fun e => (hS _ _ _ h0 _ e).2 rfl⟩
  case round =>
    clear hx1 hf1
    obtain ⟨k, S, xa, ca, q, hk, rfl, hj, hq, hx, hfz, hxa, hbs⟩ := hrel
    by_cases hlt : k < m
    · have hq0 : 0 < q := by omega
      obtain ⟨rfl, rfl⟩ := hxa hq0
      have d0 : decide ((q : Int) > 0) = true := by simp; omega
      have d0' : decide ((0 : Int) < (q : Int)) = true := by simp; omega
      have hlen := HCK.out k
      rw [← hq] at hlen
      obtain ⟨z, hz⟩ : ∃ z, (Ld.ck f k).length = z := ⟨_, rfl⟩
      rw [hz] at hlen
      have hz1 : z ≤ q ∧ 1 ≤ z ∧ z ≤ 48 := by omega
      have hz2 : q ≤ c - 48 * k := by omega
      obtain ⟨fn, tmps, assign, body, hyy, hR⟩ := hY k S wr hlt hj
      rw [hz] at hyy
      obtain ⟨cc, hcc⟩ : ∃ cc, c - 48 * k = cc := ⟨_, rfl⟩
      obtain ⟨oo, hoo⟩ : ∃ oo, 48 * k = oo := ⟨_, rfl⟩
      rw [hcc] at hyy hx hz2
      rw [hoo] at hyy hx hcc hq
      have HQ := Lib.hid hq
      have HCC := Lib.hid hcc
      have HOO := Lib.hid hoo
      have k0 : (0 : Int) ≤ (z : Int) := by omega
      have k1 : (z : Int) ≤ (cc : Int) := by omega
      have k2 : (z : Int) ≤ (q : Int) := by omega
      have k3 : z ≤ cc := by omega
      have k4 : z ≤ q := by omega
      have k5 : (q : Int) ≤ (cc : Int) := by omega
      clear hj hz HCK hq hcc hoo hc
      have tail : ∀ W', Turns (fun b => b ∈ S ∨ b = l) wr W' → W'.cell? ⟨bx, 0, none⟩ = some (.slice (some ⟨g, oo, none⟩) q cc) ∧ W'.frozen? ⟨bx, 0, none⟩ = false := fun W' ht =>
        have hn : ¬ (bx ∈ S ∨ bx = l) := fun h => h.elim hbs hbl2
        ⟨ht.cell hn hx, ht.frozen (p := ⟨bx, 0, none⟩) hn (World.block_lt_of_cell? _ _ hx) hfz⟩
      have TAIL := Lib.hid tail
      have HZ := Lib.hid (show (q ≤ 48 → z = q) ∧ (¬ q ≤ 48 → z = 48) by omega)
      clear tail hlen
      by_cases h48 : q ≤ 48
      · have hzq : z = q := HZ.out.1 h48
        subst hzq
        have e1 : decide ((z : Int) ≤ 48) = true := by simp; omega
        have e2 : decide ((48 : Int) < (z : Int)) = false := by simp; omega
        by_cases hcz : cc = z
        · subst hcz
          gi_wp2_with fail
          clear hyy
          refine hR.mono ?_
          rintro e W' ⟨S', hs1, htt, (⟨rfl, hj3⟩ | ⟨rfl, hj3⟩)⟩
          · obtain ⟨hx2, hf2⟩ := TAIL.out W' htt
            have hbs2 := fun e => (hS _ _ _ hj3 bx e).2 rfl
            clear hx hfz TAIL hR htt hs1
            gi_wp2_with fail
            go_roundw
            case rel => exact ⟨k + 1, S', some ⟨g, oo, none⟩, 0, 0, by omega, by go_num, hJ _ _ _ _ hj3 ((Turns.refl (fun b => b = bx) W').setCell (p := ⟨bx, 0, none⟩) (fun _ => rfl) _), (by have := HQ.out; have := HOO.out; omega), by go_simp, by go_simp, (fun h => absurd h (Nat.lt_irrefl 0)), hbs2⟩
            case measure => simp [intOf]; omega
          · clear hx hfz TAIL hR
            gi_wp2_with fail
            refine bodyPost_ret (results_none rfl _ _ _) rfl ?_
            exact ⟨⟨_, rfl⟩, .inr ⟨k, S', hlt, hj3⟩⟩
        · gi_wp2_with fail
          clear hyy
          refine hR.mono ?_
          rintro e W' ⟨S', hs1, htt, (⟨rfl, hj3⟩ | ⟨rfl, hj3⟩)⟩
          · obtain ⟨hx2, hf2⟩ := TAIL.out W' htt
            have hbs2 := fun e => (hS _ _ _ hj3 bx e).2 rfl
            clear hx hfz TAIL hR htt hs1
            gi_wp2_with fail
            go_roundw
            case rel => exact ⟨k + 1, S', some ⟨g, oo + z, none⟩, cc - z, 0, by omega, by go_num, hJ _ _ _ _ hj3 ((Turns.refl (fun b => b = bx) W').setCell (p := ⟨bx, 0, none⟩) (fun _ => rfl) _), (by have := HQ.out; have := HOO.out; omega), by go_simp, by go_simp, (fun h => absurd h (Nat.lt_irrefl 0)), hbs2⟩
            case measure => simp [intOf]; omega
          · clear hx hfz TAIL hR
            gi_wp2_with fail
            refine bodyPost_ret (results_none rfl _ _ _) rfl ?_
            exact ⟨⟨_, rfl⟩, .inr ⟨k, S', hlt, hj3⟩⟩
      · have hzq : z = 48 := HZ.out.2 h48
        subst hzq
        have e1 : decide ((q : Int) ≤ 48) = false := by simp; omega
        have e2 : decide ((48 : Int) < (q : Int)) = true := by simp; omega
        have e4 : ¬ cc = 48 := by omega
        gi_wp2_with fail
        clear hyy
        refine hR.mono ?_
        rintro e W' ⟨S', hs1, htt, (⟨rfl, hj3⟩ | ⟨rfl, hj3⟩)⟩
        · obtain ⟨hx2, hf2⟩ := TAIL.out W' htt
          have hbs2 := fun e => (hS _ _ _ hj3 bx e).2 rfl
          clear hx hfz TAIL hR htt hs1
          gi_wp2_with fail
          go_roundw
          case rel => exact ⟨k + 1, S', some ⟨g, oo + 48, none⟩, cc - 48, q - 48, by omega, by go_num, hJ _ _ _ _ hj3 ((Turns.refl (fun b => b = bx) W').setCell (p := ⟨bx, 0, none⟩) (fun _ => rfl) _), (by have := HQ.out; have := HOO.out; omega), by go_simp, by go_simp, (fun _ => ⟨by rw [show 48 * (k + 1) = oo + 48 by have := HOO.out; omega], by have := HCC.out; have := HOO.out; omega⟩), hbs2⟩
          case measure => simp [intOf]; omega
        · clear hx hfz TAIL hR
          gi_wp2_with fail
          refine bodyPost_ret (results_none rfl _ _ _) rfl ?_
          exact ⟨⟨_, rfl⟩, .inr ⟨k, S', hlt, hj3⟩⟩
    · obtain rfl : k = m := by omega
      obtain rfl : q = 0 := by omega
      clear hq hxa
      gi_wp2_with fail
      go_end0
      exact ⟨⟨_, rfl⟩, .inl ⟨_, hj⟩⟩

end Go.Proofs.YtapefonhgkjgnaaGreat
