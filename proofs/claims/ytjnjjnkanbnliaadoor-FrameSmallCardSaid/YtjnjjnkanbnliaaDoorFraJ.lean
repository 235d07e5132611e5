/- WALKS of the frame layer: Burst, with that of the reference. -/
import Derived.Test.YtjnjjnkanbnliaaDoorFraI
namespace Go.Proofs.YtjnjjnkanbnliaaDoor
open Go.RowKit

attribute [local go_sem] Oper.semAt_some

def rowS : Option Addr → List Nat
  | some a => [a.block]
  | none => []
def RowsAt (x : Option Addr) (S : List Nat) : Prop := ∀ b, b ∈ S → RowOf x b
theorem rowS_at (x : Option Addr) : RowsAt x (rowS x) := by
  intro b hb
  cases x with
  | none => simp [rowS] at hb
  | some a => simp [rowS] at hb; subst hb; rfl
def BuI (m : W32) (at_ : Int) (l : List UInt8) (x : Option Addr) (c : Nat) (w w1 : World) (x1 : Option Addr) (c1 : Nat) (k : Nat) (S : List Nat) (W : World) : Prop :=
  S = rowS x1 ∧ (∃ j, j ≤ 32 ∧ (Crc.bitsF m 0).drop k = Crc.bitsF m j ∧ OwnsB w.heap.size W x1 c1 (Crc.buN m at_ l j)) ∧ Below w.heap.size w W ∧
  W.cell? ⟨w.heap.size, 0, none⟩ = some (.slice x l.length c) ∧ W.cell? ⟨w.heap.size + 1, 0, none⟩ = some (.int .i64 at_) ∧ W.cell? ⟨w1.heap.size, 0, none⟩ = some (.slice x1 l.length c1)
theorem BuI.turn {m : W32} {at_ : Int} {l : List UInt8} {x : Option Addr} {c : Nat} {w w1 : World} {x1 : Option Addr} {c1 k : Nat} {S : List Nat} {A B : World} {T : Nat → Prop} (h : BuI m at_ l x c w w1 x1 c1 k S A) (ht : Turns T A B)
    (hrow : ∀ b, RowOf x1 b → b < w1.heap.size) (hz : w.heap.size + 1 < w1.heap.size) (hT : ∀ b, T b → w1.heap.size + 1 ≤ b) : BuI m at_ l x c w w1 x1 c1 k S B := by
  obtain ⟨hS, ⟨j, hj, hdr, ho⟩, hB, e0, e1, e2⟩ := h
  have ne : ∀ b, b < w1.heap.size + 1 → ¬ T b := fun b hb e => by have := hT b e; omega
  exact ⟨hS, ⟨j, hj, hdr, ho.turn ht (fun b hb => ne b (by have := hrow b hb; omega))⟩, hB.trans (ht.below hB.size (fun i hi => ne i (by omega))), ht.cell (ne w.heap.size (by omega)) e0, ht.cell (ne (w.heap.size + 1) (by omega)) e1, ht.cell (ne w1.heap.size (by omega)) e2⟩

set_option maxRecDepth 100000 in
set_option maxHeartbeats 2000000 in
theorem burst_any (x : Option Addr) (l : List UInt8) (c : Nat) (at_ : Int) (m : W32) (w : World) (hx : Bts w x l) (hn : x = none → c = 0) (hl : l.length ≤ 1000) (hat : -9223372036854775808 ≤ at_ ∧ at_ ≤ 9223372036854775807) (hd : DbAt w) :
    Calls Tryd.prog 21 #[.slice x l.length c, .int .i64 at_, .int .u32 (n32 m)] w (CloneOf (Crc.burst m at_ l) w) := by
  by_cases h1 : at_ ≤ -32
  · have d1 : decide (at_ ≤ -32) = true := decide_eq_true h1
    have HBL : Hid (Crc.burst m at_ l = l) := Crc.burst_out m at_ l (.inl h1)
    refine (callsIn_wide (n := 5)).1 ?_
    refine callsIn_of_wp_marks Tryd.func21 rfl trivial ?_ rfl
    simp only [Tryd.ntmps21, List.size_toArray, List.length_cons, List.length_nil, Nat.reduceAdd, Nat.reduceSub, Array.replicate_succ, Array.replicate_zero, List.push_toArray, List.append_toArray, List.nil_append, List.cons_append]
    gi_wp2_with (refine ⟨trivial, ?_⟩; gi_at_call 36; refine (callsIn_wide.2 (bclone_any x l c _ (hx.later (al (al (Below.refl _ w) _) _)) hn (by omega))).mono ?_; rintro e w1 ⟨x1, c1, rfl, ho, hb⟩; have g0 := later (a := ⟨w.heap.size, 0, none⟩) (v := .slice x l.length c) hb (by go_simp); have g1 := later (a := ⟨w.heap.size + 1, 0, none⟩) (v := .int .i64 at_) hb (by go_simp); have HO := Lib.hid ho; have hB := thru (al (al (Below.refl _ w) _) _) hb; have hz : w.heap.size + 1 < w1.heap.size := World.block_lt_of_cell? _ _ g1; have hz0 : w.heap.size < w1.heap.size := World.block_lt_of_cell? _ _ g0; clear ho hb)
    refine ret_plain (.slice x1 l.length c1) (by simp [results, Tryd.f21, go_sem]) ?_
    rw [HBL.out]
    exact ⟨x1, c1, rfl, (HO.out.weaken (by simp; omega)).turn ((Turns.refl (fun _ => False) _).alloc _) (fun _ _ h => h), al hB _⟩
  · have d1 : decide (at_ ≤ -32) = false := decide_eq_false h1
    by_cases h2 : 8 * (l.length : Int) ≤ at_
    · have d2 : decide (8 * (l.length : Int) ≤ at_) = true := decide_eq_true h2
      have HBL : Hid (Crc.burst m at_ l = l) := Crc.burst_out m at_ l (.inr h2)
      refine (callsIn_wide (n := 5)).1 ?_
      refine callsIn_of_wp_marks Tryd.func21 rfl trivial ?_ rfl
      simp only [Tryd.ntmps21, List.size_toArray, List.length_cons, List.length_nil, Nat.reduceAdd, Nat.reduceSub, Array.replicate_succ, Array.replicate_zero, List.push_toArray, List.append_toArray, List.nil_append, List.cons_append]
      gi_wp2_with (refine ⟨trivial, ?_⟩; gi_at_call 36; refine (callsIn_wide.2 (bclone_any x l c _ (hx.later (al (al (Below.refl _ w) _) _)) hn (by omega))).mono ?_; rintro e w1 ⟨x1, c1, rfl, ho, hb⟩; have g0 := later (a := ⟨w.heap.size, 0, none⟩) (v := .slice x l.length c) hb (by go_simp); have g1 := later (a := ⟨w.heap.size + 1, 0, none⟩) (v := .int .i64 at_) hb (by go_simp); have HO := Lib.hid ho; have hB := thru (al (al (Below.refl _ w) _) _) hb; have hz : w.heap.size + 1 < w1.heap.size := World.block_lt_of_cell? _ _ g1; have hz0 : w.heap.size < w1.heap.size := World.block_lt_of_cell? _ _ g0; clear ho hb)
      refine ret_plain (.slice x1 l.length c1) (by simp [results, Tryd.f21, go_sem]) ?_
      rw [HBL.out]
      exact ⟨x1, c1, rfl, (HO.out.weaken (by simp; omega)).turn ((Turns.refl (fun _ => False) _).alloc _) (fun _ _ h => h), al hB _⟩
    · have d2 : decide (8 * (l.length : Int) ≤ at_) = false := decide_eq_false h2
      refine (callsIn_wide (n := 5)).1 ?_
      refine callsIn_of_wp_marks Tryd.func21 rfl trivial ?_ rfl
      simp only [Tryd.ntmps21, List.size_toArray, List.length_cons, List.length_nil, Nat.reduceAdd, Nat.reduceSub, Array.replicate_succ, Array.replicate_zero, List.push_toArray, List.append_toArray, List.nil_append, List.cons_append]
      gi_wp2_with (first | (refine ⟨trivial, ?_⟩; gi_at_call 36; refine (callsIn_wide.2 (bclone_any x l c _ (hx.later (al (al (Below.refl _ w) _) _)) hn (by omega))).mono ?_; rintro e w1 ⟨x1, c1, rfl, ho, hb⟩; have g0 := later (a := ⟨w.heap.size, 0, none⟩) (v := .slice x l.length c) hb (by go_simp); have g1 := later (a := ⟨w.heap.size + 1, 0, none⟩) (v := .int .i64 at_) hb (by go_simp); have HO := Lib.hid ho; have hB := thru (al (al (Below.refl _ w) _) _) hb; have hz : w.heap.size + 1 < w1.heap.size := World.block_lt_of_cell? _ _ g1; have hz0 : w.heap.size < w1.heap.size := World.block_lt_of_cell? _ _ g0; clear ho hb) | (refine ⟨trivial, ?_⟩; gi_at_call 37; refine (callsIn_wide.2 (set_any m _)).mono ?_; rintro e w2 ⟨rfl, rfl⟩))
      have hrow : ∀ b, RowOf x1 b → b < w1.heap.size ∧ w.heap.size + 2 ≤ b := fun b hb => by have := HO.out.low b hb; simp at this; omega
      have HROW := Lib.hid hrow
      have h0w : 0 < w.heap.size := by
        obtain ⟨_, _, he, hc⟩ := hd.resolve_left (by decide)
        cases he
        exact World.block_lt_of_cell? _ _ (hc 0 (by decide))
      have hdW : DbAt ((w1.alloc (.cells #[.slice x1 l.length c1] 22)).alloc (.cells #[.int .u32 (n32 m)] 29)) := DbAt.later hd (al (al hB _) _)
      have r0 : RowsAt x1 (rowS x1) := rowS_at x1
      have HBL : Hid (Crc.burst m at_ l = Crc.buN m at_ l 32) := rfl
      clear hrow hd hx hn
      refine wpIn_rangeR (α := Nat) (encs := fun t => #[.int .i64 (t : Int)]) (len := (Crc.bitsF m 0).length) (x := fun i => (Crc.bitsF m 0).getD i 0) (stops := True) (T := fun b => b = w1.heap.size + 1) (R := fun b => b = 0) (gf := 47) (lb := #[.pointer (some ⟨w1.heap.size + 1, 0, none⟩)]) rfl (enters_of Tryd.func47 (by kernel_rfl) rfl) (fun b e => by subst e; simp) (fun b e => by subst e; simp)
        (set1_in (5 - 1) (by omega) _ m _ (by go_simp) (by go_simp) hdW (by omega)) (fun _ => rfl) (BuI m at_ l x c w w1 x1 c1) (fun _ _ _ _ => False) (rowS x1) (fun b hb => by
          have := HROW.out b (r0 b hb)
          simp; omega) ?hI (fun _ _ _ _ _ h => h.elim) (.inl trivial) ?h0
        (fun t => { tmps := #[.slice x l.length c, .int .i64 at_, .int .u32 (n32 m), .pointer (some ⟨w.heap.size, 0, none⟩), .pointer (some ⟨w.heap.size + 1, 0, none⟩), undef, .slice none 0 0, .pointer (some ⟨w1.heap.size, 0, none⟩), .int .i64 (t : Int), undef, .slice x l.length c, .slice x1 l.length c1, .int .i64 at_, .bool false, .bool false, .int .i64 at_, .slice x l.length c, .int .i64 (l.length : Int), .int .i64 (8 * (l.length : Int)), .bool false, .bool false, undef, .int .u32 (n32 m), .func (.func 47) #[] #[.pointer (some ⟨w1.heap.size + 1, 0, none⟩)], .int .i64 (t : Int), undef, undef, undef, undef, undef, undef, undef, undef, undef, undef, undef, undef, undef, undef, undef, undef, undef, undef, undef, undef, undef, undef, undef], defers := [] }) ?assign ?body ?done ?stop
      case hI =>
        intro k S A B h ht
        exact h.turn ht (fun b hb => (HROW.out b hb).1) hz (by rintro b (rfl | rfl | rfl) <;> simp <;> omega)
      case h0 =>
        refine ⟨rfl, ⟨0, by omega, rfl, ?_⟩, al (al hB _) _, by go_simp, by go_simp, by go_simp⟩
        exact (HO.out.weaken (by simp; omega)).turn (((Turns.refl (fun _ => False) _).alloc _).alloc _) (fun _ _ h => h)
      case assign =>
        intro t W K hK
        gi_wp2_with fail
        exact hK
      case body =>
        rintro k S W hk hz2 ⟨rfl, ⟨j, hj, hdr, ho⟩, hB2, e0, e1, e2⟩ hS
        clear g0 g1 HO hdW hB
        obtain ⟨t, ht⟩ : ∃ t, (Crc.bitsF m 0).getD k 0 = t := ⟨_, rfl⟩
        have hdk := drop_getD (Crc.bitsF m 0) k hk
        rw [ht, hdr] at hdk
        obtain ⟨r, hr⟩ : ∃ r, (Crc.bitsF m 0).drop (k + 1) = r := ⟨_, rfl⟩
        rw [hr] at hdk
        obtain ⟨hjt, ht32, hbt, hskip, hr2⟩ := Crc.bitsF_cons m _ j rfl hj t r hdk
        have hsk : Crc.buN m at_ l t = Crc.buN m at_ l j := by
          have := Crc.buN_skip m at_ l j (t - j) (fun i h3 h4 => hskip i h3 (by omega))
          rwa [show j + (t - j) = t by omega] at this
        have HR : Hid ((Crc.bitsF m 0).drop (k + 1) = Crc.bitsF m (t + 1)) := by show _ = _; rw [hr, hr2]
        obtain ⟨q, hq⟩ : ∃ q, Crc.buN m at_ l j = q := ⟨_, rfl⟩
        have hql : q.length = l.length := by rw [← hq]; exact Crc.buN_length _ _ _ _
        rw [hq] at ho hsk
        have HQL := Lib.hid hql
        have HO := Lib.hid ho
        rw [ht]
        by_cases hi : 0 ≤ at_ + (t : Int) ∧ at_ + (t : Int) < 8 * (l.length : Int)
        · obtain ⟨d, hdd⟩ : ∃ d : Nat, at_ + (t : Int) = (d : Int) := ⟨(at_ + (t : Int)).toNat, by omega⟩
          have hd8 : d < 8 * l.length := by omega
          obtain ⟨e, he⟩ : ∃ e, d / 8 = e := ⟨_, rfl⟩
          obtain ⟨i8, hi8⟩ : ∃ i8, d % 8 = i8 := ⟨_, rfl⟩
          have hel : e < l.length := by omega
          obtain ⟨v, hv⟩ : ∃ v, q.getD e 0 = v := ⟨_, rfl⟩
          obtain ⟨z, hzz⟩ : ∃ z, v ^^^ Crc.mask8 i8 = z := ⟨_, rfl⟩
          have HN : Hid (Crc.buN m at_ l (t + 1) = q.set e z) := by
            show _ = _
            rw [Crc.buN, hsk, Crc.buS, if_pos ⟨hbt, hi.1, by rw [hql]; exact hi.2⟩, hdd, Int.toNat_natCast, Crc.flipB, he, hi8, hv, hzz]
          have hxo : bits .xor .u8 (v.toNat : Int) ((Crc.mask8 i8).toNat : Int) = (z.toNat : Int) := by rw [u8_xor, hzz]
          have hmk := shl8 i8
          have dn0 : decide ((0 : Int) ≤ (d : Int)) = true := by simp
          have dn1 : decide ((d : Int) < 8 * (l.length : Int)) = true := by simp; omega
          obtain ⟨g1', rfl⟩ := ho.some_of (by omega)
          have hg1 := HROW.out g1' rfl
          have hde : (d : Int) / 8 = (e : Int) := by omega
          have hdm : (d : Int) % 8 = (i8 : Int) := by omega
          have HV := Lib.hid hv
          clear ht hdr hdk hr hr2 hskip hsk hbt hq hql ho he hi8 hv hzz hi hjt h2
          gi_wp2_with fail
          refine wpIn_tail 10 (fun X => OwnsB w.heap.size X (some ⟨g1', 0, none⟩) c1 q ∧ X.cell? ⟨w1.heap.size, 0, none⟩ = some (.slice (some ⟨g1', 0, none⟩) l.length c1) ∧ Turns (fun _ => False) W X) (by kernel_rfl) (by kernel_rfl) (fun ⟨_, _, h⟩ => h) ⟨HO.out.turn ((Turns.refl (fun _ => False) W).drew) (fun _ _ h => h), e2, (Turns.refl _ _).drew⟩ ?_
          rintro X ⟨ho, e2X, htX⟩
          have hce := ho.cell e (by have := HQL.out; omega)
          rw [HV.out] at hce
          have hfe := ho.free e
          have HOX := Lib.hid ho
          have HTX := Lib.hid htX
          clear ho htX
          have hwe : IntKind.i64.wrap (e : Int) = (e : Int) := wrap64_of _ (by omega)
          have hmt : (d : Int).tmod 8 = (i8 : Int) := by rw [Int.tmod_eq_emod_of_nonneg (by omega)]; exact hdm
          have hwj : IntKind.i64.wrap (i8 : Int) = (i8 : Int) := wrap64_of _ (by omega)
          simp only [List.take_succ_cons, List.take_zero, List.drop_succ_cons, List.drop_zero]
          repeat still_step
          refine wpStill_nil ?_
          go_wp2_with fail
          gi_wp2_with fail
          have hts : Turns (fun b => b = g1') W (X.setCell ⟨g1', e, none⟩ (.int .u8 (z.toNat : Int))) := Turns.setCell (T := fun b => b = g1') (p := ⟨g1', e, none⟩) (HTX.out.mono (fun _ _ h => h.elim)) (fun _ => rfl) _
          have hsz : W.heap.size ≤ (X.setCell ⟨g1', e, none⟩ (.int .u8 (z.toNat : Int))).heap.size := hts.size
          refine ⟨rowS (some ⟨g1', 0, none⟩), fun b hb => ⟨Nat.lt_of_lt_of_le (hS b hb) hsz, .inl hb⟩, hts.mono (fun b _ hb => by subst hb; simp [rowS]), rfl, ⟨t + 1, by omega, HR.out, by rw [HN.out]; exact HOX.out.set e z⟩, hB2.trans (hts.below hB2.size (fun b hb hc => by omega)), hts.cell (by simp; omega) e0, hts.cell (by simp; omega) e1, hts.cell (by simp; omega) e2⟩
        · have HN : Hid (Crc.buN m at_ l (t + 1) = q) := by
            show _ = _
            rw [Crc.buN, hsk, Crc.buS, if_neg (fun h => hi (by rw [hql] at h; exact h.2))]
          clear ht hdr hdk hr hr2 hskip hsk hbt hq hql ho
          have fin : BuI m at_ l x c w w1 x1 c1 (k + 1) (rowS x1) W := ⟨rfl, ⟨t + 1, by omega, HR.out, by rw [HN.out]; exact HO.out⟩, hB2, e0, e1, e2⟩
          have FIN := Lib.hid fin
          clear fin
          by_cases hlo : 0 ≤ at_ + (t : Int)
          · have dn0 : decide (0 ≤ at_ + (t : Int)) = true := decide_eq_true hlo
            have dn1 : decide (at_ + (t : Int) < 8 * (l.length : Int)) = false := decide_eq_false (fun h => hi ⟨hlo, h⟩)
            clear hi
            gi_wp2_with fail
            exact ⟨_, fun b hb => ⟨hS b hb, .inl hb⟩, Turns.refl _ _, FIN.out⟩
          · have dn0 : decide (0 ≤ at_ + (t : Int)) = false := decide_eq_false hlo
            clear hi
            gi_wp2_with fail
            exact ⟨_, fun b hb => ⟨hS b hb, .inl hb⟩, Turns.refl _ _, FIN.out⟩
      case done =>
        rintro S W hzW ⟨rfl, ⟨j, hj, hdr, ho⟩, hB2, e0, e1, e2⟩ hK
        have hnil : Crc.bitsF m j = [] := by rw [← hdr, List.drop_eq_nil_iff]; omega
        have h32 : Crc.buN m at_ l 32 = Crc.buN m at_ l j := by
          have := Crc.buN_skip m at_ l j (32 - j) (fun i h3 _ => Crc.bitsF_nil m _ j rfl hj hnil i h3)
          rwa [show j + (32 - j) = 32 by omega] at this
        have HO2 := Lib.hid ho
        have H32 := Lib.hid h32
        have hw1s : w1.heap.size < W.heap.size := World.block_lt_of_cell? _ _ e2
        clear hnil h32 hdr ho g0 g1 HO hdW hB
        gi_wp2_with fail
        refine ret_mark (.slice x1 l.length c1) hK (fun W3 ht3 => ?_)
        refine ⟨by simp [results, Tryd.f21, go_sem], ?_⟩
        rw [HBL.out, H32.out]
        refine ⟨x1, c1, by rw [Crc.buN_length], HO2.out.turn ht3 (fun b hb e => by have := HROW.out b hb; simp at e; omega), hB2.trans (ht3.below hB2.size (fun b hb e => by simp at e; omega))⟩
      case stop =>
        intro c' k S W hk hz2 h
        exact h.elim

end Go.Proofs.YtjnjjnkanbnliaaDoor
