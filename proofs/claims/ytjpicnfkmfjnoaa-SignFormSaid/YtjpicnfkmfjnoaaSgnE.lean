/- WALKS of the sign layer: valid, levels. -/
import Derived.Test.YtjpicnfkmfjnoaaSgnD
import Derived.Test.YtjpicnfkmfjnoaaRangeV
import Derived.Test.YtjpicnfkmfjnoaaRegionW
import Derived.TacticsInMore
import Derived.OwnWalkIn
import Derived.LoopIn
import Derived.LoopNIn
import Derived.Shelf.RegionOpen
import Derived.BigQuiet
namespace Go.Proofs.Ytjpicnfkmfjnoaa
open Go.RowKit

def vldS (h q : Int) : Bool := decide (0 ≤ h ∧ h ≤ 6 ∧ 0 ≤ q ∧ q < 2 ^ h.toNat)
theorem valid_any (h q : Int) (w : World) : Calls Try.prog 43 #[.int .i64 h, .int .i64 q] w fun e w' => e = .returned (.bool (vldS h q)) ∧ w' = w := by
  by_cases h0 : 0 ≤ h
  · by_cases h6 : h ≤ 6
    · by_cases q0 : 0 ≤ q
      · have HV : Hid (vldS h q = decide (q < 2 ^ h.toNat)) := by
          show vldS h q = _
          unfold vldS
          simp [h0, h6, q0]
        have d0 : decide (0 ≤ h) = true := decide_eq_true h0
        have d6 : decide (h ≤ 6) = true := decide_eq_true h6
        have dq : decide (0 ≤ q) = true := decide_eq_true q0
        clear HV d0 d6 dq
        rcases (show h = 0 ∨ h = 1 ∨ h = 2 ∨ h = 3 ∨ h = 4 ∨ h = 5 ∨ h = 6 by omega) with rfl | rfl | rfl | rfl | rfl | rfl | rfl
        · by_cases hq : q < 1
          · have e : vldS 0 q = true := by unfold vldS; simp; omega
            have dq : decide (0 ≤ q) = true := decide_eq_true q0
            have dl : decide (q < 1) = true := decide_eq_true hq
            rw [e]
            go_enter Try.func43, Try.ntmps43
            go_wp2
            go_ret
            exact ⟨rfl, rfl⟩
          · have e : vldS 0 q = false := by unfold vldS; simp; omega
            have dq : decide (0 ≤ q) = true := decide_eq_true q0
            have dl : decide (q < 1) = false := decide_eq_false hq
            rw [e]
            go_enter Try.func43, Try.ntmps43
            go_wp2
            go_ret
            exact ⟨rfl, rfl⟩
        · by_cases hq : q < 2
          · have e : vldS 1 q = true := by unfold vldS; simp; omega
            have dq : decide (0 ≤ q) = true := decide_eq_true q0
            have dl : decide (q < 2) = true := decide_eq_true hq
            rw [e]
            go_enter Try.func43, Try.ntmps43
            go_wp2
            go_ret
            exact ⟨rfl, rfl⟩
          · have e : vldS 1 q = false := by unfold vldS; simp; omega
            have dq : decide (0 ≤ q) = true := decide_eq_true q0
            have dl : decide (q < 2) = false := decide_eq_false hq
            rw [e]
            go_enter Try.func43, Try.ntmps43
            go_wp2
            go_ret
            exact ⟨rfl, rfl⟩
        · by_cases hq : q < 4
          · have e : vldS 2 q = true := by unfold vldS; simp; omega
            have dq : decide (0 ≤ q) = true := decide_eq_true q0
            have dl : decide (q < 4) = true := decide_eq_true hq
            rw [e]
            go_enter Try.func43, Try.ntmps43
            go_wp2
            go_ret
            exact ⟨rfl, rfl⟩
          · have e : vldS 2 q = false := by unfold vldS; simp; omega
            have dq : decide (0 ≤ q) = true := decide_eq_true q0
            have dl : decide (q < 4) = false := decide_eq_false hq
            rw [e]
            go_enter Try.func43, Try.ntmps43
            go_wp2
            go_ret
            exact ⟨rfl, rfl⟩
        · by_cases hq : q < 8
          · have e : vldS 3 q = true := by unfold vldS; simp; omega
            have dq : decide (0 ≤ q) = true := decide_eq_true q0
            have dl : decide (q < 8) = true := decide_eq_true hq
            rw [e]
            go_enter Try.func43, Try.ntmps43
            go_wp2
            go_ret
            exact ⟨rfl, rfl⟩
          · have e : vldS 3 q = false := by unfold vldS; simp; omega
            have dq : decide (0 ≤ q) = true := decide_eq_true q0
            have dl : decide (q < 8) = false := decide_eq_false hq
            rw [e]
            go_enter Try.func43, Try.ntmps43
            go_wp2
            go_ret
            exact ⟨rfl, rfl⟩
        · by_cases hq : q < 16
          · have e : vldS 4 q = true := by unfold vldS; simp; omega
            have dq : decide (0 ≤ q) = true := decide_eq_true q0
            have dl : decide (q < 16) = true := decide_eq_true hq
            rw [e]
            go_enter Try.func43, Try.ntmps43
            go_wp2
            go_ret
            exact ⟨rfl, rfl⟩
          · have e : vldS 4 q = false := by unfold vldS; simp; omega
            have dq : decide (0 ≤ q) = true := decide_eq_true q0
            have dl : decide (q < 16) = false := decide_eq_false hq
            rw [e]
            go_enter Try.func43, Try.ntmps43
            go_wp2
            go_ret
            exact ⟨rfl, rfl⟩
        · by_cases hq : q < 32
          · have e : vldS 5 q = true := by unfold vldS; simp; omega
            have dq : decide (0 ≤ q) = true := decide_eq_true q0
            have dl : decide (q < 32) = true := decide_eq_true hq
            rw [e]
            go_enter Try.func43, Try.ntmps43
            go_wp2
            go_ret
            exact ⟨rfl, rfl⟩
          · have e : vldS 5 q = false := by unfold vldS; simp; omega
            have dq : decide (0 ≤ q) = true := decide_eq_true q0
            have dl : decide (q < 32) = false := decide_eq_false hq
            rw [e]
            go_enter Try.func43, Try.ntmps43
            go_wp2
            go_ret
            exact ⟨rfl, rfl⟩
        · by_cases hq : q < 64
          · have e : vldS 6 q = true := by unfold vldS; simp; omega
            have dq : decide (0 ≤ q) = true := decide_eq_true q0
            have dl : decide (q < 64) = true := decide_eq_true hq
            rw [e]
            go_enter Try.func43, Try.ntmps43
            go_wp2
            go_ret
            exact ⟨rfl, rfl⟩
          · have e : vldS 6 q = false := by unfold vldS; simp; omega
            have dq : decide (0 ≤ q) = true := decide_eq_true q0
            have dl : decide (q < 64) = false := decide_eq_false hq
            rw [e]
            go_enter Try.func43, Try.ntmps43
            go_wp2
            go_ret
            exact ⟨rfl, rfl⟩
      · have e : vldS h q = false := by unfold vldS; simp; omega
        have d0 : decide (0 ≤ h) = true := decide_eq_true h0
        have d6 : decide (h ≤ 6) = true := decide_eq_true h6
        have dq : decide (0 ≤ q) = false := decide_eq_false q0
        rw [e]
        go_enter Try.func43, Try.ntmps43
        go_wp2
        go_ret
        exact ⟨rfl, rfl⟩
    · have e : vldS h q = false := by unfold vldS; simp; omega
      have d0 : decide (0 ≤ h) = true := decide_eq_true h0
      have d6 : decide (h ≤ 6) = false := decide_eq_false h6
      rw [e]
      go_enter Try.func43, Try.ntmps43
      go_wp2
      go_ret
      exact ⟨rfl, rfl⟩
  · have e : vldS h q = false := by unfold vldS; simp; omega
    have d0 : decide (0 ≤ h) = false := decide_eq_false h0
    rw [e]
    go_enter Try.func43, Try.ntmps43
    go_wp2
    go_ret
    exact ⟨rfl, rfl⟩

theorem levels_any (seed : D64) (h : Int) (w : World) : Calls Try.prog 44 #[.int .u64 (num seed), .int .i64 h] w fun e w' => e = .returned (.func (.func 57) #[] #[.pointer (some ⟨w.heap.size + 1, 0, none⟩), .pointer (some ⟨w.heap.size, 0, none⟩)]) ∧ w' = (w.alloc (.cells #[.int .u64 (num seed)] 22)).alloc (.cells #[.int .i64 h] 3) := by
  have hmf : ∀ (fn : Fn) (first cap : Array Value) (w : World), (Instr.makeFunc fn first cap).run Try.prog w = .ok (.func fn first cap) w := fun _ _ _ _ => rfl
  go_enter Try.func44, Try.ntmps44
  go_wp2_with fail
  go_ret
  exact ⟨rfl, rfl⟩

def rowE (a : Nat × Nat) : Array Value := #[.slice (some ⟨a.1, 0, none⟩) a.2 a.2]
def RowV (seed : D64) (h k : Nat) (a : Nat × Nat) (W : World) : Prop := a.2 = 2 ^ (h - k) ∧ Wts W (some ⟨a.1, 0, none⟩) (Sgn.row seed h k)
/-- n cells of words at the head of a block. -/
def RowA (W : World) (b n : Nat) (v : Nat → D64) : Prop := ∀ j, j < n → W.cell? ⟨b, j, none⟩ = some (.int .u64 (num (v j))) ∧ W.frozen? ⟨b, j, none⟩ = false
theorem RowA.set {W : World} {b n : Nat} {v : Nat → D64} (h : RowA W b n v) (i : Nat) (u : D64) : RowA (W.setCell ⟨b, i, none⟩ (.int .u64 (num u))) b n (fun j => if j = i then u else v j) := by
  intro j hj
  refine ⟨?_, by rw [World.frozen?_setCell]; exact (h j hj).2⟩
  by_cases e : j = i
  · subst e
    simp only [if_true]
    exact World.cell?_setCell_same' _ _ _ (by rw [(h j hj).1]; rfl)
  · simp only [if_neg e]
    rw [World.cell?_setCell_other _ _ _ _ (by simp <;> omega)]
    exact (h j hj).1
theorem RowA.congr {W : World} {b n : Nat} {v u : Nat → D64} (h : RowA W b n v) (e : ∀ j, j < n → v j = u j) : RowA W b n u := fun j hj => ⟨by rw [← e j hj]; exact (h j hj).1, (h j hj).2⟩
theorem RowA.turn {W W' : World} {b n : Nat} {v : Nat → D64} {T : Nat → Prop} (h : RowA W b n v) (ht : Turns T W W') (hb : ¬ T b) : RowA W' b n v := fun j hj =>
  ⟨ht.cell (p := ⟨b, j, none⟩) hb (h j hj).1, ht.frozen (p := ⟨b, j, none⟩) hb (World.block_lt_of_cell? _ _ (h j hj).1) (h j hj).2⟩
theorem RowA.later {W W' : World} {b n : Nat} {v : Nat → D64} (h : RowA W b n v) (hb : Below W.heap.size W W') : RowA W' b n v := h.turn (Turns.of_below hb (Nat.le_refl _) (T := fun _ => False)) (fun e => e)
theorem rowA_zeros (W : World) (n : Nat) (hn : n ≤ 10000000) : RowA (W.alloc (.cells (zeroW n) 22)) W.heap.size n (fun _ => 0#64) := fun j hj =>
  have h := OwnsW.zeros W.heap.size W.heap.size n W (Nat.le_refl _) rfl hn
  ⟨by have := h.cell j (by simpa using hj); simpa [List.getD_eq_getElem?_getD, hj] using this, h.free j⟩
theorem RowA.wts {W : World} {b n : Nat} {v : Nat → D64} (h : RowA W b n v) {l : List D64} (hl : l.length = n) (he : ∀ j, j < n → l.getD j 0#64 = v j) : Wts W (some ⟨b, 0, none⟩) l :=
  .inr ⟨b, 0, rfl, fun i hi => by rw [he i (by omega), Nat.zero_add]; exact (h i (by omega)).1⟩
theorem RowA.other {W : World} {b n : Nat} {v : Nat → D64} (h : RowA W b n v) {p : Addr} (hp : p.block ≠ b) (u : Value) : RowA (W.setCell p u) b n v := fun j hj => ⟨by rw [World.cell?_setCell_other _ _ _ _ (by intro e; subst e; exact hp rfl)]; exact (h j hj).1, by rw [World.frozen?_setCell]; exact (h j hj).2⟩
def L1Rel (seed : D64) (N : Nat) (_hb sb : Nat) (A : World) (u13 : Value) (wr : World) : Prop :=
  ∃ q : Nat, q ≤ N ∧ u13 = .int .i64 (q : Int) ∧ Turns (fun _ => False) A wr ∧ wr.cell? ⟨sb, 0, none⟩ = some (.int .u64 (num seed)) ∧ RowA wr A.heap.size N (fun j => if j < q then Sgn.node seed 0 j else 0#64) ∧ A.heap.size < wr.heap.size
def sliceLen : Value → Nat
  | .slice _ n _ => n
  | _ => 0
def L2Rel (seed : D64) (h l : Nat) (J : Nat → List Nat → World → Prop) (u4 : Value) (wr : World) : Prop :=
  ∃ (k : Nat) (S : List Nat) (rb : Nat), k ≤ h ∧ u4 = .slice (some ⟨rb, 0, none⟩) (2 ^ (h - k)) (2 ^ (h - k)) ∧ J k S wr ∧ RowA wr rb (2 ^ (h - k)) (Sgn.node seed k) ∧ ¬ rb ∈ S ∧ ¬ rb = l ∧ l < wr.heap.size ∧ rb < wr.heap.size
def L3Rel (seed : D64) (k M rb : Nat) (A : World) (u37 : Value) (wr : World) : Prop :=
  ∃ i : Nat, i ≤ M ∧ u37 = .int .i64 (i : Int) ∧ Turns (fun _ => False) A wr ∧ RowA wr rb (2 * M) (Sgn.node seed k) ∧ RowA wr A.heap.size M (fun j => if j < i then Sgn.node seed (k + 1) j else 0#64) ∧ A.heap.size < wr.heap.size

set_option maxRecDepth 100000 in
set_option maxHeartbeats 2000000 in
theorem levels1_in (n : Nat) (hn : 1 ≤ n) (hb sb : Nat) (seed : D64) (h : Nat) (w : World) (h6 : h ≤ 6) (c0 : w.cell? ⟨hb, 0, none⟩ = some (.int .i64 (h : Int))) (c1 : w.cell? ⟨sb, 0, none⟩ = some (.int .u64 (num seed))) :
    YieldsV n Try.prog 57 #[.pointer (some ⟨hb, 0, none⟩), .pointer (some ⟨sb, 0, none⟩)] rowE (h + 1) (RowV seed h) True (fun _ => False) w := by
  intro l J Jx S0 W hW hl0 hl hJ hJx hS hst hY h0
  have d0 := hW.cell (fun e => e) c0
  have d1 := hW.cell (fun e => e) c1
  have hsb := World.block_lt_of_cell? _ _ d1
  clear c0 c1 hst
  obtain ⟨N, hN⟩ : ∃ N, 2 ^ h = N := ⟨_, rfl⟩
  have hN64 : 1 ≤ N ∧ N ≤ 64 := by
    rw [← hN]
    exact ⟨Nat.one_le_two_pow, Nat.pow_le_pow_right (n := 2) (by decide) h6⟩
  have hsh : wrap64 (2 ^ h) = (N : Int) := by
    have e : (2 : Int) ^ h = (N : Int) := by rw [← hN, Int.natCast_pow]; rfl
    rw [e]
    exact IntWalk.wrap64_in _ (by omega)
  have hmk := fun W => run_zerosW N (by omega) W
  have hz := rowA_zeros W N (by omega)
  have htz : Turns (fun _ => False) W (W.alloc (.cells (zeroW N) 22)) := (Turns.refl _ _).alloc _
  have hsz : W.heap.size < (W.alloc (.cells (zeroW N) 22)).heap.size := by simp
  have d2 := htz.cell (p := ⟨sb, 0, none⟩) (fun e => e) d1
  refine callsIn_of_wp Try.func57 rfl trivial ?_ rfl
  simp only [Try.ntmps57, List.size_toArray, List.length_cons, List.length_nil, Nat.reduceAdd, Nat.reduceSub, Array.replicate_succ, Array.replicate_zero, List.push_toArray, List.append_toArray, List.nil_append, List.cons_append]
  gi_wp2_with fail
  clear hmk hsh d0 d1
  gi_loopw [13] (fun u13 wr => L1Rel seed N hb sb W u13 wr) (fun u13 _ => N - (intOf u13).toNat)
  case atStart => exact ⟨0, by omega, rfl, htz, d2, hz.congr fun j _ => by simp, hsz⟩
  case round =>
    clear htz d2 hz hsz
    obtain ⟨q, hq, rfl, ht, d2, hR, hsz⟩ := hrel
    by_cases hlt : q < N
    · have hkq : decide (q < N) = true := decide_eq_true hlt
      have HQ : Hid (Sgn.pub seed (u8z (q : Int)) (u8z ((q : Int) / 256)) = Sgn.node seed 0 q) := by
        show Sgn.pub seed _ _ = Sgn.pub seed (UInt8.ofNat q) (UInt8.ofNat (q / 256))
        rw [u8z_nat, show (q : Int) / 256 = ((q / 256 : Nat) : Int) by omega, u8z_nat]
      gi_wp2_with (refine ⟨trivial, ?_⟩; gi_at_call 15; refine (callsIn_wide.2 (Public_any seed (q : Int) _)).mono ?_; rintro e w1 ⟨rfl, hb1⟩; have hR1 := hR.later hb1; have r0 := (hR1 q hlt).1; have r1 : w1.frozen? ⟨W.heap.size, q, none⟩ = false := (hR1 q hlt).2)
      rw [HQ.out]
      refine ⟨⟨q + 1, by omega, by go_num, (ht.trans (Turns.of_below hb1 (Nat.le_refl _))).setCell (fun e => absurd e (by simp)) _, (World.cell?_setCell_other _ _ _ _ (by simp <;> omega)).trans (later hb1 d2), (hR1.set q _).congr fun j _ => ?_, by have := hb1.size; simp; omega⟩, by simp [intOf]; omega⟩
      by_cases hji : j = q
      · subst hji; simp
      · by_cases h2 : j < q
        · simp [hji, h2, show j < q + 1 by omega]
        · simp [hji, h2, show ¬ j < q + 1 by omega]
    · obtain rfl : q = N := by omega
      have hS00 := hS _ _ _ h0
      have hj0 := hJ _ _ _ _ h0 ht
      gi_wp2_with fail
      gi_loopw [4] (fun u4 wr => L2Rel seed h l J u4 wr) (fun u4 _ => sliceLen u4)
      case atStart => exact ⟨0, S0, W.heap.size, by omega, by rw [Nat.sub_zero, hN], hj0, by rw [Nat.sub_zero, hN]; exact hR.congr fun j hj => by simp [hj], fun e => Nat.lt_irrefl _ (hS00 _ e).1, by omega, by omega, hsz⟩
      case round =>
        clear hR hj0 hS00 d2 ht
        obtain ⟨k, S, rb, hk, rfl, hj, hR, hns, hnl, hlz, hrb⟩ := hrel
        obtain ⟨L, hL⟩ : ∃ L, 2 ^ (h - k) = L := ⟨_, rfl⟩
        have hL64 : 1 ≤ L ∧ L ≤ 64 := by
          rw [← hL]
          exact ⟨Nat.one_le_two_pow, Nat.pow_le_pow_right (n := 2) (by decide) (show h - k ≤ 6 by omega)⟩
        have hV : RowV seed h k (rb, L) wr := ⟨hL.symm, (hL ▸ hR).wts (by rw [Sgn.row_length, hL]) (fun j hj => Sgn.row_getD _ _ _ _ (by rw [hL]; exact hj))⟩
        rw [hL] at hR ⊢
        obtain ⟨fn, tmps, assign, body, hy, hRr⟩ := hY k S (rb, L) wr (by omega) hV hj
        simp only [rowE] at hy
        clear hV
        gi_wp2_with fail
        refine hRr.mono ?_
        rintro e W' ⟨S', hs1, htt, (⟨rfl, hj3⟩ | ⟨rfl, hj3⟩)⟩
        · have hR' := hR.turn htt (fun e => e.elim hns hnl)
          have hS3 := hS _ _ _ hj3
          have hzz := htt.size
          clear hR hRr hy
          by_cases hkh : k < h
          · obtain ⟨M, hM⟩ : ∃ M, 2 ^ (h - (k + 1)) = M := ⟨_, rfl⟩
            have hLM : L = 2 * M := by rw [← hL, ← hM, show h - k = (h - (k + 1)) + 1 by omega, Nat.pow_succ]; omega
            have hM1 : 1 ≤ M := by rw [← hM]; exact Nat.one_le_two_pow
            subst hLM
            have dL : decide ((1 : Int) < 2 * (M : Int)) = true := decide_eq_true (by omega)
            have hmk := fun W => run_zerosW M (by omega) W
            have hz := rowA_zeros W' M (by omega)
            have hR2 : RowA (W'.alloc (.cells (zeroW M) 22)) rb (2 * M) (Sgn.node seed k) := hR'.later (al (Below.refl _ _) _)
            have ht0 : Turns (fun _ => False) W' (W'.alloc (.cells (zeroW M) 22)) := (Turns.refl _ _).alloc _
            have hz0 : W'.heap.size < (W'.alloc (.cells (zeroW M) 22)).heap.size := by simp
            have hrb' : rb < W'.heap.size := by omega
            clear hR'
            gi_wp2_with fail
            clear hmk
            gi_loopw [37] (fun u37 wr => L3Rel seed k M rb W' u37 wr) (fun u37 _ => M - (intOf u37).toNat)
            case atStart => exact ⟨0, by omega, rfl, ht0, hR2, hz.congr fun j _ => by simp, hz0⟩
            case round =>
              clear hR2 ht0 hz hz0
              obtain ⟨i, hi, rfl, ht3, hRr, hRn, hszn⟩ := hrel
              by_cases hlt3 : i < M
              · have dki : decide (i < M) = true := decide_eq_true hlt3
                obtain ⟨e, he⟩ : ∃ e, 2 * i = e := ⟨_, rfl⟩
                have h2i : 2 * (i : Int) = (e : Int) := by omega
                have heM : e + 1 < 2 * M := by omega
                have x0 := (hRr e (by omega)).1
                have x1 := (hRr (e + 1) heM).1
                have HN : Hid (Sgn.node seed (k + 1) i = Dig.pair (Sgn.node seed k e) (Sgn.node seed k (e + 1))) := by show Dig.pair (Sgn.node seed k (2 * i)) (Sgn.node seed k (2 * i + 1)) = _; rw [he]
                obtain ⟨va, hva⟩ : ∃ v, Sgn.node seed k e = v := ⟨_, rfl⟩
                obtain ⟨vb, hvb⟩ : ∃ v, Sgn.node seed k (e + 1) = v := ⟨_, rfl⟩
                rw [hva] at x0 HN
                rw [hvb] at x1 HN
                clear he hva hvb
                gi_wp2_with fail
                refine wpIn_region_schedBW (B := W'.heap.size) (fun X => X.cell? ⟨rb, e, none⟩ = some (.int .u64 (num va)) ∧ X.cell? ⟨rb, e + 1, none⟩ = some (.int .u64 (num vb)) ∧ RowA X rb (2 * M) (Sgn.node seed k) ∧ RowA X W'.heap.size M (fun j => if j < i then Sgn.node seed (k + 1) j else 0#64) ∧ Turns (fun _ => False) W' X ∧ W'.heap.size < X.heap.size) (.one [0, 1, 2, 3, 4, 5, 6, 7, 8, 9, 10, 11, 12] 13 (.one [14] 15 (.done []))) (by kernel_rfl) (by kernel_rfl) (fun ⟨_, _, hh⟩ => by obtain ⟨⟨v, hv⟩, _⟩ := hh; cases hv) (fun _ _ _ _ _ h => h) ⟨x0, x1, hRr, hRn, ht3.drew, hszn⟩ ?_
                clear x0 x1 hRr hRn ht3 hszn
                rintro X ⟨x0, x1, hRr, hRn, ht3, hszn⟩
                rw [wpSchedB]
                simp only [pick, List.map_cons, List.map_nil, Array.getD_eq_getD_getElem?, List.getElem?_toArray, List.getElem?_cons_succ, List.getElem?_cons_zero, Option.getD_some]
                have kq0 := plusB_cell x0 (by simpa using hrb')
                have kq1 := plusB_cell x1 (by simpa using hrb')
                repeat (first | go_big_quiet_step (fail) | quiet_step (fail))
                refine wpQuiet_nil ?_
                clear kq0 kq1 x0 x1
                refine heavyB_want (by rfl) (fun K' hK' => ?_)
                go_simp
                refine (pair_any va vb _).mono ?_
                rintro e X1 ⟨rfl, hb1⟩
                refine hK' _ _ (hb1.mono (by omega)) ?_
                clear hK' K'
                rw [← HN.out]
                replace hRr := hRr.later hb1
                replace hRn := hRn.later hb1
                replace ht3 := ht3.trans (Turns.of_below hb1 (Nat.le_refl _))
                replace hszn : W'.heap.size < X1.heap.size := by have := hb1.size; omega
                have y0 := (hRn i hlt3).1
                have y1 : X1.frozen? ⟨W'.heap.size, i, none⟩ = false := (hRn i hlt3).2
                clear hb1
                try simp only [Act.put, List.setIfInBounds_toArray, List.set_cons_zero, List.set_cons_succ]
                rw [wpSchedB]
                simp only [pick, List.map_cons, List.map_nil, Array.getD_eq_getD_getElem?, List.getElem?_toArray, List.getElem?_cons_succ, List.getElem?_cons_zero, Option.getD_some]
                repeat (first | go_big_quiet_step (fail) | quiet_step (fail))
                refine wpQuiet_nil ?_
                refine heavyB_want (by rfl) (fun K' hK' => ?_)
                go_simp
                refine hK' _ _ ((Below.refl _ _).setCell (p := ⟨W'.heap.size, i, none⟩) (Nat.le_refl _) _) ?_
                clear hK' K' y0 y1
                try simp only [Act.put, List.setIfInBounds_toArray, List.set_cons_zero, List.set_cons_succ]
                rw [wpSchedB]
                simp only [List.map_nil]
                refine wpQuiet_nil ?_
                gi_wp2_with fail
                refine ⟨⟨i + 1, by omega, by go_num, ht3.setCell (fun e => absurd e (by simp)) _, hRr.other (by simp <;> omega) _, (hRn.set i _).congr fun j _ => ?_, by simpa using hszn⟩, by simp [intOf]; omega⟩
                by_cases hji : j = i
                · subst hji; simp
                · by_cases h2 : j < i
                  · simp [hji, h2, show j < i + 1 by omega]
                  · simp [hji, h2, show ¬ j < i + 1 by omega]
              · obtain rfl : i = M := by omega
                have dki : decide (i < i) = false := by simp
                have hj4 := hJ _ _ _ _ hj3 ht3
                gi_wp2_with fail
                exact ⟨⟨k + 1, S', W'.heap.size, by omega, by rw [hM], hj4, by rw [hM]; exact hRn.congr fun j hj => by simp [hj], fun e => Nat.lt_irrefl _ (hS3 _ e).1, by omega, by omega, hszn⟩, by simp [sliceLen]; omega⟩
          · obtain rfl : k = h := by omega
            have hL1 : L = 1 := by rw [← hL, Nat.sub_self]
            have dL : decide ((1 : Int) < (L : Int)) = false := decide_eq_false (by omega)
            clear hL1
            gi_wp2_with fail
            go_end0
            exact ⟨⟨_, rfl⟩, .inl ⟨_, hj3⟩⟩
        · gi_wp2_with fail
          go_end0
          exact ⟨⟨_, rfl⟩, .inr ⟨k, S', by omega, hj3⟩⟩

end Go.Proofs.Ytjpicnfkmfjnoaa
