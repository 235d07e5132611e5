/- Texts of the layers below, under one roof: RefBb. -/
import Derived.BigQuiet
import Derived.Test.YtapefonhgkjgnaaGreatLdA
import Derived.Test.YtapefonhgkjgnaaGreatLdB
import Derived.Test.YtapefonhgkjgnaaGreatLdC
import Derived.Test.YtapefonhgkjgnaaGreatLdD
set_option maxRecDepth 20000
namespace Go.Proofs.YtapefonhgkjgnaaGreat

section
open Go.RowKit

theorem bit_b2w (r : W32) (b : Bool) : Crc.bit (r ^^^ Crc.b2w b) = if r.getLsbD 0 = b then r >>> 1 else (r >>> 1) ^^^ Crc.poly := by
  have h1 : (r ^^^ Crc.b2w b) >>> 1 = r >>> 1 := by
    rw [BitVec.ushiftRight_xor_distrib]
    have : Crc.b2w b >>> 1 = 0#32 := by cases b <;> decide
    rw [this, BitVec.xor_zero]
  unfold Crc.bit
  rw [h1, BitVec.getLsbD_xor, Crc.b2w_bit]
  cases r.getLsbD 0 <;> cases b <;> simp
theorem mod2_32 (x : W32) : n32 x % 2 = n32 (Crc.b2w (x.getLsbD 0)) := by
  have h := and1 x
  have e : bits .and .u32 (n32 x) 1 = n32 x % 2 := by
    have := u32_and x 1#32
    rw [show n32 1#32 = 1 by decide] at this
    rw [this]
    unfold n32
    rw [BitVec.toNat_and, show (1#32 : W32).toNat = 1 from rfl, Nat.and_one_is_mod]; simp
  rw [← e, h]
  cases x.getLsbD 0 <;> decide
theorem tmod32 (x : W32) (k : Int) : (n32 x).tmod k = n32 x % k := Int.tmod_eq_emod_of_nonneg (n32_nonneg x)
theorem tdiv32 (x : W32) (k : Int) : (n32 x).tdiv k = n32 x / k := Int.tdiv_eq_ediv_of_nonneg (n32_nonneg x)
theorem b2w_eq (a b : Bool) : (Crc.b2w a == Crc.b2w b) = (a == b) := by cases a <;> cases b <;> decide

set_option maxHeartbeats 400000 in
theorem refbit_any (r : W32) (b : Bool) (w : World) : Calls Tryz.prog 117 #[.int .u32 (n32 r), .int .u32 (n32 (Crc.b2w b))] w fun e w' => e = .returned (.int .u32 (n32 (Crc.bit (r ^^^ Crc.b2w b)))) ∧ w' = w := by
  have hp : (3988292384 : Int) = n32 Crc.poly := by decide
  have h0 := n32_nonneg r
  have hm := mod2_32 r
  have hd : n32 r / 2 = n32 (r >>> 1) := shr32 r 1
  have hm2 := tmod32 r 2
  have hd2 := tdiv32 r 2
  have hq := b2w_eq (r.getLsbD 0) b
  have hb := bit_b2w r b
  obtain ⟨a, ha⟩ : ∃ a, r.getLsbD 0 = a := ⟨_, rfl⟩
  rw [ha] at hm hq hb
  by_cases he : a = b
  · have hq2 : (a == b) = true := by simp [he]
    rw [hq2] at hq
    rw [if_pos he] at hb
    have HB := Lib.hid hb
    clear hb ha he hq2
    go_enter Tryz.func117, Tryz.ntmps117
    go_wp2_with fail
    go_ret
    rw [HB.out]
    exact ⟨rfl, rfl⟩
  · have hq2 : (a == b) = false := by simp [he]
    rw [hq2] at hq
    rw [if_neg he] at hb
    have HB := Lib.hid hb
    clear hb ha he hq2
    go_enter Tryz.func117, Tryz.ntmps117
    go_wp2_with fail
    go_ret
    rw [HB.out]
    exact ⟨rfl, rfl⟩

theorem not32 (s : W32) : IntKind.u32.wrap (4294967295 - n32 s) = n32 (~~~s) := by
  have h0 := n32_nonneg s; have h1 := n32_lt s
  rw [wrap32u]
  unfold n32 at *
  rw [BitVec.toNat_not]
  omega
def RuRel (s : W32) (l : List UInt8) (u5 u6 : Value) : Prop := ∃ j : Nat, j ≤ l.length ∧ u6 = .int .i64 (j : Int) ∧ u5 = .int .u32 (n32 (Crc.reg (~~~s) (l.take j)))
def RiRel (r p : W32) (u5 u7 u8 : Value) : Prop := ∃ k : Nat, k ≤ 8 ∧ u8 = .int .i64 (k : Int) ∧ u5 = .int .u32 (n32 (Crc.bitN k (r ^^^ Crc.low p k))) ∧ u7 = .int .u32 (n32 (p >>> k))
theorem ri_step (r p : W32) (k : Nat) (h : k < 32) : Crc.bit (Crc.bitN k (r ^^^ Crc.low p k) ^^^ Crc.b2w (p.getLsbD k)) = Crc.bitN (k + 1) (r ^^^ Crc.low p (k + 1)) := by
  rw [Crc.bitN_succ, Crc.low, ← BitVec.xor_assoc, Crc.bitN_xor k (r ^^^ Crc.low p k), Crc.bitN_one_shift k h]

set_option maxRecDepth 100000 in
set_option maxHeartbeats 1000000 in
theorem refup_any (s : W32) (x : Option Addr) (l : List UInt8) (c : Nat) (w : World) (hx : Bts w x l) (hl : l.length ≤ 10000000) :
    Calls Tryz.prog 115 #[.int .u32 (n32 s), .slice x l.length c] w fun e w' => e = .returned (.int .u32 (n32 (Crc.sumFrom s l))) ∧ w' = w := by
  have hn := not32 s
  go_enter Tryz.func115, Tryz.ntmps115
  go_wp2_with fail
  clear hn
  go_loop [5, 6] (fun u5 u6 => RuRel s l u5 u6) (fun _ u6 => l.length - (intOf u6).toNat)
  case atStart => exact ⟨0, by omega, rfl, rfl⟩
  case round =>
    obtain ⟨j, hj, rfl, rfl⟩ := hrel
    by_cases hlt : j < l.length
    · obtain ⟨g, o, rfl, hcl⟩ := hx.resolve_left (by intro e; subst e; simp at hlt)
      have hcj := hcl j hlt
      have hts := take_succ_getD l j hlt
      obtain ⟨v, hv⟩ : ∃ v, l.getD j 0 = v := ⟨_, rfl⟩
      obtain ⟨r, hr⟩ : ∃ r, Crc.reg (~~~s) (l.take j) = r := ⟨_, rfl⟩
      rw [hv] at hcj hts
      unfold encB at hcj
      have HTS : Hid (Crc.reg (~~~s) (l.take (j + 1)) = Crc.byte r v) := by show _ = _; rw [hts, Crc.reg_snoc, hr]
      have hp := u8_n32 v
      obtain ⟨p, hpp⟩ : ∃ p, Crc.ofByte v = p := ⟨_, rfl⟩
      rw [hpp] at hp
      have HL : Hid (Crc.bitN 8 (r ^^^ Crc.low p 8) = Crc.byte r v) := by show _ = _; rw [← hpp, Crc.low_byte]; rfl
      rw [hr]
      clear hcl hv hr hts hpp
      go_wp2_with fail
      clear hp hcj
      go_loop [5, 7, 8] (fun u5 u7 u8 => RiRel r p u5 u7 u8) (fun _ _ u8 => 8 - (intOf u8).toNat)
      case atStart => exact ⟨0, by omega, rfl, by simp [Crc.low, Crc.bitN], by simp⟩
      case round =>
        obtain ⟨k, hk, rfl, rfl, rfl⟩ := hrel
        by_cases hlk : k < 8
        · have h0 := n32_nonneg (p >>> k)
          have hm := mod2_32 (p >>> k)
          have hm2 := tmod32 (p >>> k) 2
          have hd2 := tdiv32 (p >>> k) 2
          have hd : n32 (p >>> k) / 2 = n32 (p >>> (k + 1)) := by rw [BitVec.shiftRight_add]; exact shr32 _ 1
          have hbk : (p >>> k).getLsbD 0 = p.getLsbD k := by simp
          obtain ⟨b, hb⟩ : ∃ b, p.getLsbD k = b := ⟨_, rfl⟩
          have hst := ri_step r p k (by omega)
          obtain ⟨q, hq⟩ : ∃ q, Crc.bitN k (r ^^^ Crc.low p k) = q := ⟨_, rfl⟩
          obtain ⟨z, hz⟩ : ∃ z, p >>> k = z := ⟨_, rfl⟩
          rw [hbk, hb] at hm
          rw [hb, hq] at hst
          rw [hz] at h0 hm hm2 hd2 hd
          rw [hq, hz]
          have HS := Lib.hid hst
          clear hst hq hz hb hbk
          go_wp2_with fail
          refine (refbit_any q b _).mono ?_
          rintro e w1 ⟨rfl, rfl⟩
          go_wp2_with fail
          go_round
          case rel => exact ⟨k + 1, by omega, by go_num, by rw [HS.out], rfl⟩
          case measure => simp [intOf]; omega
        · obtain rfl : k = 8 := by omega
          rw [HL.out]
          go_wp2_with fail
          go_round
          case rel => exact ⟨j + 1, by omega, by go_num, by rw [HTS.out]⟩
          case measure => simp [intOf]; omega
    · obtain rfl : j = l.length := by omega
      have HS : Hid (n32 (~~~Crc.reg (~~~s) l) = n32 (Crc.sumFrom s l)) := rfl
      have hn := not32 (Crc.reg (~~~s) l)
      rw [List.take_length]
      go_wp2_with fail
      go_ret
      rw [HS.out]
      exact ⟨rfl, rfl⟩

theorem refsum_any (x : Option Addr) (l : List UInt8) (c : Nat) (w : World) (hx : Bts w x l) (hl : l.length ≤ 10000000) :
    Calls Tryz.prog 113 #[.slice x l.length c] w fun e w' => e = .returned (.int .u32 (n32 (Crc.sum l))) ∧ w' = w := by
  have hz : (0 : Int) = n32 0#32 := by decide
  have HS : Hid (Crc.sumFrom 0#32 l = Crc.sum l) := rfl
  have cu := refup_any 0#32 x l c w hx hl
  rw [← hz, HS.out] at cu
  clear hz
  go_enter Tryz.func113, Tryz.ntmps113
  go_wp2_with fail
  refine cu.mono ?_
  rintro e w1 ⟨rfl, rfl⟩
  clear cu
  go_wp2_with fail
  go_ret
  exact ⟨rfl, rfl⟩

def RaRel (s : W32) (l : List UInt8) (w : World) (u3 u4 u5 : Value) (wr : World) : Prop :=
  ∃ (j : Nat) (x : Option Addr) (cap : Nat), j ≤ 4 ∧ u5 = .int .i64 (j : Int) ∧ u4 = .int .u32 (n32 (s >>> (8 * j))) ∧ u3 = .slice x (l ++ trailN s j).length cap ∧ OwnsB w.heap.size wr x cap (l ++ trailN s j) ∧ Below w.heap.size w wr
theorem low_mod (y : W32) : IntKind.u8.wrap (n32 y % 256) = ((low8 y).toNat : Int) := by
  rw [← u8_low32, wrap8u, wrap8u]; omega

set_option maxHeartbeats 1000000 in
theorem refapp_any (x : Option Addr) (l : List UInt8) (c : Nat) (w : World) (hx : Bts w x l) (hn : x = none → c = 0) (hl : l.length ≤ 100000) : Calls Tryz.prog 111 #[.slice x l.length c] w (AppOf l w) := by
  have hB := Below.refl w.heap.size w
  have L0 := Lib.hid (show [] ++ l = l from rfl)
  obtain ⟨s, hs⟩ : ∃ s, Crc.sum l = s := ⟨_, rfl⟩
  have HS := Lib.hid hs
  clear hs
  go_enter Tryz.func111, Tryz.ntmps111
  go_wp2_with (at_builtin; (refine wpList_app rfl _ _ rfl (l := []) (B := w.heap.size) (OwnsB.made' _ (w.heap.size) _ (Nat.le_refl _) rfl) rfl (m := l) rfl (hx.later (al hB _)) hn (by simp; omega) L0.out (by simp) ?_); intro x1 c1 w1 ho hb _; refine Hid.out ?_)
  unfold Hid
  replace hB := (al hB _).trans (hb.mono (by have := hB.size; first | omega | (simp <;> omega)))
  have hx1 := hx.later hB
  have O1 := Lib.hid ho
  clear ho hb hx L0
  go_wp2_with fail
  refine (refsum_any x l c _ hx1 (by omega)).mono ?_
  rintro e w2 ⟨rfl, rfl⟩
  rw [HS.out]
  have L1 := Lib.hid (show l ++ trailN s 0 = l by simp [trailN])
  have hs0 := Lib.hid (show s >>> (8 * 0) = s by simp)
  go_wp2_with fail
  go_loopw [3, 4, 5] (fun u3 u4 u5 wr => RaRel s l w u3 u4 u5 wr) (fun _ _ u5 _ => 4 - (intOf u5).toNat)
  case atStart => exact ⟨0, x1, c1, by omega, rfl, by rw [hs0.out], by rw [L1.out], by rw [L1.out]; exact O1.out, hB⟩
  case round =>
    clear O1 hB L1 hs0 hx1
    obtain ⟨j, y, cap, hj, rfl, rfl, rfl, hown, hB⟩ := hrel
    have HO := Lib.hid hown
    clear hown
    by_cases hlt : j < 4
    · have hd : n32 (s >>> (8 * j)) / 256 = n32 (s >>> (8 * (j + 1))) := by rw [show 8 * (j + 1) = 8 * j + 8 by omega, BitVec.shiftRight_add]; exact shr32 _ 8
      obtain ⟨z, hz⟩ : ∃ z, s >>> (8 * j) = z := ⟨_, rfl⟩
      have h0 := n32_nonneg z
      have hm := low_mod z
      have hm2 := tmod32 z 256
      have hd2 := tdiv32 z 256
      obtain ⟨lj, hlj⟩ : ∃ m, l ++ trailN s j = m := ⟨_, rfl⟩
      obtain ⟨v, hv⟩ : ∃ v, low8 z = v := ⟨_, rfl⟩
      obtain ⟨lm, hlm⟩ : ∃ m, lj ++ [v] = m := ⟨_, rfl⟩
      have hll : lj.length ≤ 100010 := by rw [← hlj]; simp [trailN]; omega
      have HLM : Hid (l ++ trailN s (j + 1) = lm) := by
        show l ++ trailN s (j + 1) = lm
        rw [trailN_succ, ← List.append_assoc, hlj, hz, hv, hlm]
      rw [hlj] at HO ⊢
      rw [hz] at hd ⊢
      rw [hv] at hm
      clear hlj hv hz
      go_wp2_with (at_builtin; refine wpList_app rfl _ _ rfl (B := w.heap.size) (l := lj) (y := some ⟨wr.heap.size, 0, none⟩) (m := [v]) (HO.out.turn ((Turns.refl (fun _ => False) wr).alloc _) (fun _ _ h => h)) rfl rfl (bts_one wr v _ _) (fun h => by cases h) (by simp; omega) hlm (by have := hB.size; simp; omega) ?_; intro x' cap' w3 h1 h2 _; refine Hid.out ?_)
      unfold Hid
      have HN := Lib.hid h1
      have hB4 := (al hB _).trans (h2.mono (Nat.le_refl _))
      clear h1 h2 HO hB hlm
      go_wp2_with fail
      exact ⟨⟨j + 1, x', cap', by omega, by go_num, rfl, by rw [HLM.out], by rw [HLM.out]; exact HN.out, hB4⟩, by simp [intOf]; omega⟩
    · obtain rfl : j = 4 := by omega
      rw [trail4] at HO ⊢
      go_wp2_with fail
      go_ret
      have h := HS.out
      subst h
      exact ⟨_, _, rfl, HO.out, hB⟩
end

section
open Go.RowKit

set_option maxHeartbeats 1000000 in
theorem refValid_any (x : Option Addr) (rs : List Rw) (c : Nat) (w : World) (hs : Rws w x rs) (hn : rs.length ≤ 1000) : Calls Tryz.prog 80 #[.slice x rs.length c] w fun e w' => e = .returned (.bool (vldS (rs.map (·.l)))) ∧ w' = w := by
  rw [vldS_eq]
  go_enter Tryz.func80, Tryz.ntmps80
  go_wp2_with fail
  go_loop [3] (fun u3 => ∃ j : Nat, j ≤ rs.length ∧ u3 = .int .i64 (j : Int) ∧ ∀ i, i < j → badL (rs.getD i rw0).l.length = false) (fun u3 => rs.length - (intOf u3).toNat)
  case atStart => exact ⟨0, by omega, rfl, fun i hi => by omega⟩
  case round =>
    obtain ⟨j, hj, rfl, hgood⟩ := hrel
    by_cases hlt : j < rs.length
    · have d1 : decide ((j : Int) < (rs.length : Int)) = true := by simp; omega
      obtain ⟨b0, o0, rfl, hcj, -⟩ := hs.at j hlt
      obtain ⟨rj, hrj⟩ : ∃ r, rs.getD j rw0 = r := ⟨_, rfl⟩
      have hcj' : w.cell? ⟨b0, o0 + j, none⟩ = some (.slice rj.x rj.l.length rj.c) := by rw [hcj, hrj]; rfl
      have HRJ := Lib.hid hrj
      have HG := Lib.hid hgood
      clear hcj hrj hgood
      by_cases hq : rj.l.length = 54
      · have q1 : ((rj.l.length : Int) != 54) = false := by rw [bne_eq_false_iff_eq]; omega
        have HQ : Hid (badL rj.l.length = false) := by show _ = _; rw [hq]; rfl
        clear hq
        go_wp2_with fail
        exact ⟨⟨j + 1, by omega, by go_num, fun i hi => by
          by_cases h : i = j
          · subst h; rw [HRJ.out]; exact HQ.out
          · exact HG.out i (by omega)⟩, by simp [intOf]; omega⟩
      · have q1 : ((rj.l.length : Int) != 54) = true := by rw [bne_iff_ne]; omega
        have hb : badL (rs.getD j rw0).l.length = true := by rw [HRJ.out]; show (rj.l.length != 54) = true; simpa using hq
        have HQ := Lib.hid (any_of_bad (fun r : Rw => badL r.l.length) rs j rw0 hlt hb)
        clear hq hb
        go_wp2_with fail
        go_ret
        exact ⟨by rw [HQ.out]; simp, rfl⟩
    · obtain rfl : j = rs.length := by omega
      have HQ := Lib.hid (any_none (fun r : Rw => badL r.l.length) rs rw0 hgood)
      clear hgood
      by_cases h1 : 1 ≤ rs.length
      · have d2 : decide ((1 : Int) ≤ (rs.length : Int)) = true := decide_eq_true (by omega)
        have d3 : decide (1 ≤ rs.length) = true := decide_eq_true h1
        go_wp2_with fail
        go_ret
        exact ⟨by rw [HQ.out]; simp  <;> omega, rfl⟩
      · have d2 : decide ((1 : Int) ≤ (rs.length : Int)) = false := decide_eq_false (by omega)
        have d3 : decide (1 ≤ rs.length) = false := decide_eq_false h1
        go_wp2_with fail
        go_ret
        exact ⟨by first | rfl | (rw [d3]; rfl), rfl⟩

theorem Bts.ix {W : World} {x : Option Addr} {l : List UInt8} (h : Bts W x l) (i : Nat) (hi : i < l.length) : ∃ b o, x = some ⟨b, o, none⟩ ∧ W.cell? ⟨b, o + i, none⟩ = some (.int .u8 ((l.getD i 0).toNat : Int)) := by
  rcases h with h | ⟨b, o, hx, hc⟩
  · subst h; simp at hi
  · exact ⟨b, o, hx, hc i hi⟩
theorem eq_of_getD8 (l m : List UInt8) (hl : l.length = m.length) (h : ∀ i, i < l.length → l.getD i 0 = m.getD i 0) : (l == m) = true := by
  rw [beq_iff_eq]
  apply List.ext_getElem hl
  intro i h1 h2
  have := h i h1
  rwa [List.getD_eq_getElem?_getD, List.getElem?_eq_getElem h1, List.getD_eq_getElem?_getD, List.getElem?_eq_getElem h2] at this
set_option maxHeartbeats 1000000 in
theorem refEqual_any (x y : Option Addr) (l m : List UInt8) (c d : Nat) (w : World) (hx : Bts w x l) (hy : Bts w y m) (hl0 : l.length ≤ 1000000) : Calls Tryz.prog 102 #[.slice x l.length c, .slice y m.length d] w fun e w' => e = .returned (.bool (l == m)) ∧ Below w.heap.size w w' := by
  by_cases hl : l.length = m.length
  · have q0 : ((l.length : Int) != (m.length : Int)) = false := by rw [bne_eq_false_iff_eq]; omega
    have HL := Lib.hid hl
    have hB := Below.refl w.heap.size w
    clear hl
    go_enter Tryz.func102, Tryz.ntmps102
    go_wp2_with fail
    go_loopw [5] (fun u5 wr => ∃ j : Nat, j ≤ l.length ∧ u5 = .int .i64 (j : Int) ∧ (∀ i, i < j → l.getD i 0 = m.getD i 0) ∧ Below w.heap.size w wr) (fun u5 _ => l.length - (intOf u5).toNat)
    case atStart => exact ⟨0, by omega, rfl, fun i hi => by omega, hB⟩
    case round =>
      clear hB
      obtain ⟨j, hj, rfl, hgood, hB⟩ := hrel
      by_cases hlt : j < l.length
      · have d1 : decide ((j : Int) < (l.length : Int)) = true := by simp; omega
        obtain ⟨a0, p0, rfl, ca⟩ := (hx.later hB).ix j hlt
        obtain ⟨a1, p1, rfl, cb⟩ := (hy.later hB).ix j (by have := HL.out; omega)
        obtain ⟨u, hu⟩ : ∃ u, l.getD j 0 = u := ⟨_, rfl⟩
        obtain ⟨v, hv⟩ : ∃ u, m.getD j 0 = u := ⟨_, rfl⟩
        rw [hu] at ca
        rw [hv] at cb
        have HU := Lib.hid hu
        have HV := Lib.hid hv
        have HG := Lib.hid hgood
        have jB : (j : Int) < (l.length : Int) := by omega
        have jC : (j : Int) < (m.length : Int) := by have := HL.out; omega
        have jC2 : j < m.length := by have := HL.out; omega
        clear hu hv hgood
        obtain ⟨q, hq⟩ : ∃ q, ((u.toNat : Int) != (v.toNat : Int)) = q := ⟨_, rfl⟩
        go_wp2_with fail
        refine wp_region_sched (fun W => W.cell? ⟨a0, p0 + j, none⟩ = some (.int .u8 (u.toNat : Int)) ∧ W.cell? ⟨a1, p1 + j, none⟩ = some (.int .u8 (v.toNat : Int)) ∧ Below w.heap.size w W) (.done [0, 1, 2, 3, 4, 5, 6, 7, 8]) (by kernel_rfl) (by kernel_rfl) (fun _ _ _ _ _ h => h) ⟨ca, cb, hB.drew⟩ ?_
        clear ca cb hB
        rintro W ⟨ca, cb, hB⟩
        rw [wpSched]
        simp only [pick, List.map_cons, List.map_nil, Array.getD_eq_getD_getElem?, List.getElem?_toArray, List.getElem?_cons_succ, List.getElem?_cons_zero, Option.getD_some]
        have kca := plusW_cell ca
        have kcb := plusW_cell cb
        repeat (first | go_big_quiet_step (fail) | quiet_step (fail))
        refine wpQuiet_nil ?_
        clear kca kcb
        have HQ := Lib.hid hq
        cases q
        · go_wp2_with fail
          have h2 : u = v := by have := HQ.out; rw [bne_eq_false_iff_eq] at this; exact UInt8.toNat_inj.1 (by omega)
          exact ⟨⟨j + 1, by omega, by go_num, fun i hi => by
            by_cases h : i = j
            · subst h; rw [HU.out, HV.out]; exact h2
            · exact HG.out i (by omega), hB⟩, by simp [intOf]; omega⟩
        · go_wp2_with fail
          go_ret
          exact ⟨by
            have : (l == m) = false := by
              rw [beq_eq_false_iff_ne]
              intro h
              have h1 := HU.out
              rw [h, HV.out] at h1
              have := HQ.out
              rw [h1] at this; simp at this
            rw [this]; rfl, hB⟩
      · obtain rfl : j = l.length := by omega
        have HF := Lib.hid (eq_of_getD8 l m HL.out hgood)
        clear hgood
        go_wp2_with fail
        go_ret
        exact ⟨by rw [HF.out]; rfl, hB⟩
  · have q0 : ((l.length : Int) != (m.length : Int)) = true := by rw [bne_iff_ne]; omega
    have HF : Hid ((l == m) = false) := by
      show _ = _
      rw [beq_eq_false_iff_ne]
      intro h
      exact hl (by rw [h])
    clear hl
    go_enter Tryz.func102, Tryz.ntmps102
    go_wp2_with fail
    go_ret
    exact ⟨by rw [HF.out]; rfl, Below.refl _ _⟩

theorem rep_snoc (n : Nat) (v : UInt8) : List.replicate n v ++ [v] = List.replicate (n + 1) v := by rw [List.replicate_succ']
set_option maxHeartbeats 1000000 in
theorem refErased_any (w : World) : Calls Tryz.prog 103 #[] w fun e w' => ∃ x c, e = .returned (.slice x 54 c) ∧ OwnsB w.heap.size w' x c erasedL ∧ Below w.heap.size w w' := by
  have hB := Below.refl w.heap.size w
  go_enter Tryz.func103, Tryz.ntmps103
  go_wp2_with fail
  go_loopw [1, 2] (fun u1 u2 wr => ∃ (j : Nat) (x : Option Addr) (cap : Nat), j ≤ 54 ∧ u2 = .int .i64 (j : Int) ∧ u1 = .slice x (List.replicate j (255 : UInt8)).length cap ∧ OwnsB w.heap.size wr x cap (List.replicate j 255) ∧ Below w.heap.size w wr) (fun _ u2 _ => 54 - (intOf u2).toNat)
  case atStart => exact ⟨0, none, 0, by omega, rfl, rfl, OwnsB.nil _ _, hB⟩
  case round =>
    clear hB
    obtain ⟨j, x, cap, hj, rfl, rfl, hown, hB⟩ := hrel
    have HO := Lib.hid hown
    clear hown
    by_cases hlt : j < 54
    · obtain ⟨lj, hlj⟩ : ∃ l, List.replicate j (255 : UInt8) = l := ⟨_, rfl⟩
      obtain ⟨lm, hlm⟩ : ∃ l, lj ++ [(255 : UInt8)] = l := ⟨_, rfl⟩
      have hll : lj.length ≤ 54 := by rw [← hlj]; simp; omega
      have HLM : Hid (List.replicate (j + 1) (255 : UInt8) = lm) := by show _ = _; rw [← rep_snoc, hlj, hlm]
      rw [hlj] at HO ⊢
      clear hlj
      go_wp2_with (at_builtin; refine wpList_app rfl _ _ rfl (B := w.heap.size) (l := lj) (y := some ⟨wr.heap.size, 0, none⟩) (m := [(255 : UInt8)]) (HO.out.turn ((Turns.refl (fun _ => False) wr).alloc _) (fun _ _ h => h)) rfl rfl (bts_one wr 255 _ _) (fun h => by cases h) (by simp; omega) hlm (by have := hB.size; simp; omega) ?_; intro x' cap' w3 h1 h2 _; refine Hid.out ?_)
      unfold Hid
      have HN := Lib.hid h1
      have hB4 := (al hB _).trans (h2.mono (Nat.le_refl _))
      clear h1 h2 HO hB hlm
      go_wp2_with fail
      exact ⟨⟨j + 1, x', cap', by omega, by go_num, by rw [HLM.out], by rw [HLM.out]; exact HN.out, hB4⟩, by simp [intOf]; omega⟩
    · obtain rfl : j = 54 := by omega
      go_wp2_with fail
      go_ret
      exact ⟨_, _, rfl, HO.out, hB⟩

def slLen : Value → Nat
  | .slice _ n _ => n
  | _ => 0
set_option maxHeartbeats 1000000 in
theorem refEncode_yes (x : Option Addr) (d : List UInt8) (c : Nat) (w : World) (hx : Bts w x d) (hn : x = none → c = 0) (hd : d.length ≤ 48) : Calls Tryz.prog 104 #[.slice x d.length c] w fun e w' => ∃ y cap, e = .returned (.slice y 54 cap) ∧ OwnsB w.heap.size w' y cap (encL d) ∧ Below w.heap.size w w' := by
  have hB := Below.refl w.heap.size w
  have hw8 : IntKind.u8.wrap (d.length : Int) = ((UInt8.ofNat d.length).toNat : Int) := by rw [wrap8u, UInt8.toNat_ofNat']; omega
  obtain ⟨v, hv⟩ : ∃ v, UInt8.ofNat d.length = v := ⟨_, rfl⟩
  obtain ⟨l1, hl1⟩ : ∃ l, [v] ++ d = l := ⟨_, rfl⟩
  have n1 : l1.length = d.length + 1 := by rw [← hl1]; simp
  have HB49 : Hid (l1 ++ List.replicate (48 - d.length) 0 = base49 d) := by show _ = _; rw [← hl1, ← hv]; rfl
  rw [hv] at hw8
  have HD := Lib.hid hd
  have H1 := Lib.hid n1
  have h100 : d.length ≤ 9223372036854775807 := by omega
  clear hv n1 hd
  go_enter Tryz.func104, Tryz.ntmps104
  go_wp2_with (at_builtin; (refine wpList_app rfl _ _ rfl (l := [v]) (B := w.heap.size) (OwnsB.whole _ w.heap.size w [v] _ rfl (Nat.le_refl _) rfl (by simp)) rfl (m := d) rfl (hx.later (al hB _)) hn (by have := HD.out; simp; omega) hl1 (by simp) ?_); intro x1 c1 w1 ho hb _; refine Hid.out ?_)
  unfold Hid
  replace hB := (al hB _).trans hb
  have HO1 := Lib.hid ho
  clear ho hb hx hl1
  go_wp2_with fail
  go_loopw [3] (fun u3 wr => ∃ (k : Nat) (x : Option Addr) (cap : Nat), k ≤ 48 - d.length ∧ u3 = .slice x (l1 ++ List.replicate k 0).length cap ∧ OwnsB w.heap.size wr x cap (l1 ++ List.replicate k 0) ∧ Below w.heap.size w wr) (fun u3 _ => 49 - slLen u3)
  case atStart => exact ⟨0, x1, c1, by omega, by simp, by simpa using HO1.out, hB⟩
  case round =>
    clear hB HO1
    obtain ⟨k, x2, cap, hk, rfl, hown, hB⟩ := hrel
    have HO := Lib.hid hown
    clear hown
    by_cases hlt : k < 48 - d.length
    · obtain ⟨lj, hlj⟩ : ∃ l, l1 ++ List.replicate k (0 : UInt8) = l := ⟨_, rfl⟩
      obtain ⟨lm, hlm⟩ : ∃ l, lj ++ [(0 : UInt8)] = l := ⟨_, rfl⟩
      have hll : lj.length = d.length + 1 + k := by rw [← hlj, List.length_append, H1.out]; simp
      have HLM : Hid (l1 ++ List.replicate (k + 1) (0 : UInt8) = lm) := by show _ = _; rw [← rep_snoc, ← List.append_assoc, hlj, hlm]
      have d1 : decide ((lj.length : Int) < 49) = true := by simp; omega
      have HLL := Lib.hid hll
      have HM2 : Hid (lm.length = lj.length + 1) := by show _ = _; rw [← hlm]; simp
      rw [hlj] at HO ⊢
      clear hlj hll
      go_wp2_with (at_builtin; refine wpList_app rfl _ _ rfl (B := w.heap.size) (l := lj) (y := some ⟨wr.heap.size, 0, none⟩) (m := [(0 : UInt8)]) (HO.out.turn ((Turns.refl (fun _ => False) wr).alloc _) (fun _ _ h => h)) rfl rfl (bts_one wr 0 _ _) (fun h => by cases h) (by have := HLL.out; simp; omega) hlm (by have := hB.size; simp; omega) ?_; intro x' cap' w3 h1 h2 _; refine Hid.out ?_)
      unfold Hid
      have HN := Lib.hid h1
      have hB4 := (al hB _).trans (h2.mono (Nat.le_refl _))
      clear h1 h2 HO hB hlm
      go_wp2_with fail
      exact ⟨⟨k + 1, x', cap', by omega, by rw [HLM.out], by rw [HLM.out]; exact HN.out, hB4⟩, by have := HLL.out; have := HM2.out; simp [slLen]; omega⟩
    · obtain rfl : k = 48 - d.length := by omega
      rw [HB49.out] at HO ⊢
      obtain ⟨l, hl⟩ : ∃ l, base49 d = l := ⟨_, rfl⟩
      have h49 : l.length = 49 := by rw [← hl]; exact base49_len d HD.out
      have HE : Hid (encL d = l ++ Crc.trailer (Crc.sum l) ++ [0]) := by show _ = _; rw [← hl]; rfl
      obtain ⟨g, rfl⟩ := HO.out.some_of (by rw [hl]; omega)
      rw [hl] at HO ⊢
      rw [h49]
      have ca := refapp_any (some ⟨g, 0, none⟩) l cap wr HO.out.bts (fun h => by cases h) (by omega)
      rw [h49] at ca
      obtain ⟨m, hm⟩ : ∃ m, l ++ Crc.trailer (Crc.sum l) = m := ⟨_, rfl⟩
      have hm53 : m.length = 53 := by rw [← hm, List.length_append, h49]; simp [Crc.trailer]
      unfold AppOf at ca
      rw [hm, hm53] at ca
      rw [hm] at HE
      have HM53 := Lib.hid hm53
      clear hl hm h49 hm53
      go_wp2_with fail
      refine ca.mono ?_
      rintro e w5 ⟨x5, c5, rfl, ho5, hb5⟩
      have hB5 := thru hB hb5
      have hsz := hB.size
      have HO5 := Lib.hid (ho5.weaken (B' := w.heap.size) hsz)
      clear ho5 hb5 hB HO ca
      obtain ⟨lm, hlm⟩ : ∃ l, m ++ [(0 : UInt8)] = l := ⟨_, rfl⟩
      have hlm54 : lm.length = 54 := by rw [← hlm, List.length_append, HM53.out]; rfl
      go_wp2_with (at_builtin; refine wpList_app rfl _ _ rfl (B := w.heap.size) (l := m) (y := some ⟨w5.heap.size, 0, none⟩) (m := [(0 : UInt8)]) (HO5.out.turn ((Turns.refl (fun _ => False) w5).alloc _) (fun _ _ h => h)) (by rw [HM53.out]; rfl) rfl (bts_one w5 0 _ _) (fun h => by cases h) (by have := HM53.out; simp; omega) hlm (by have := hB5.size; simp; omega) ?_; intro x' cap' w6 h1 h2 _; refine Hid.out ?_)
      unfold Hid
      have HN := Lib.hid h1
      have hB6 := (al hB5 _).trans (h2.mono (Nat.le_refl _))
      rw [hlm] at HE
      clear h1 h2 HO5 hB5 hlm hlm54
      go_wp2_with fail
      go_ret
      exact ⟨_, _, rfl, by rw [HE.out]; exact HN.out, hB6⟩
end

section
open Go.RowKit

set_option maxHeartbeats 4000000 in
theorem refRead_any (x : Option Addr) (rs : List Rw) (c : Nat) (i : Int) (w : World) (hs : Rws w x rs) (hn : rs.length ≤ 1000) : Calls Tryz.prog 81 #[.slice x rs.length c, .int .i64 i] w (ReadOf (rs.map (·.l)) i w) := by
  have hB := Below.refl w.heap.size w
  by_cases hv : vldS (rs.map (·.l)) = false
  · have HV : Hid (vldS (rs.map (·.l)) = false) := hv
    have HC : Hid (rdC (rs.map (·.l)) i = 2) := by show _ = _; unfold rdC; rw [if_neg (by rw [hv]; simp)]
    have HM : Hid (rdM (rs.map (·.l)) i = []) := by show _ = _; unfold rdM; rw [HC.out]; rfl
    clear hv
    go_enter Tryz.func81, Tryz.ntmps81
    go_wp2_with fail
    refine (refValid_any x rs c _ hs hn).mono ?_
    rintro e w1 ⟨rfl, hw1⟩
    obtain rfl : w = w1 := hw1.symm
    clear hw1
    rw [HV.out]
    go_wp2_with fail
    refine bodyPost_ret (v := .tuple #[.slice none 0 0, .int .i64 2]) (by simp [results, Tryz.results81, go_sem]) rfl ⟨none, 0, by rw [HM.out, HC.out]; rfl, by rw [HM.out]; exact OwnsB.nil _ _, hB⟩
  · have hv1 : vldS (rs.map (·.l)) = true := by simpa using hv
    have HV : Hid (vldS (rs.map (·.l)) = true) := hv1
    by_cases h1 : i < 0
    · have HC : Hid (rdC (rs.map (·.l)) i = 2) := by show _ = _; unfold rdC; rw [if_neg (by omega)]
      have HM : Hid (rdM (rs.map (·.l)) i = []) := by show _ = _; unfold rdM; rw [HC.out]; rfl
      have a1 : decide (i < 0) = true := decide_eq_true h1
      go_enter Tryz.func81, Tryz.ntmps81
      go_wp2_with fail
      refine (refValid_any x rs c _ hs hn).mono ?_
      rintro e w1 ⟨rfl, hw1⟩
      obtain rfl : w = w1 := hw1.symm
      clear hw1
      rw [HV.out]
      go_wp2_with fail
      refine bodyPost_ret (v := .tuple #[.slice none 0 0, .int .i64 2]) (by simp [results, Tryz.results81, go_sem]) rfl ⟨none, 0, by rw [HM.out, HC.out]; rfl, by rw [HM.out]; exact OwnsB.nil _ _, hB⟩
    · by_cases h2 : (rs.length : Int) ≤ i
      · have HC : Hid (rdC (rs.map (·.l)) i = 2) := by show _ = _; unfold rdC; rw [if_neg (by rw [List.length_map]; omega)]
        have HM : Hid (rdM (rs.map (·.l)) i = []) := by show _ = _; unfold rdM; rw [HC.out]; rfl
        have a1 : decide (i < 0) = false := decide_eq_false h1
        have a2 : decide ((rs.length : Int) ≤ i) = true := decide_eq_true h2
        go_enter Tryz.func81, Tryz.ntmps81
        go_wp2_with fail
        refine (refValid_any x rs c _ hs hn).mono ?_
        rintro e w1 ⟨rfl, hw1⟩
        obtain rfl : w = w1 := hw1.symm
        clear hw1
        rw [HV.out]
        go_wp2_with fail
        refine bodyPost_ret (v := .tuple #[.slice none 0 0, .int .i64 2]) (by simp [results, Tryz.results81, go_sem]) rfl ⟨none, 0, by rw [HM.out, HC.out]; rfl, by rw [HM.out]; exact OwnsB.nil _ _, hB⟩
      · obtain ⟨j, rfl⟩ : ∃ j : Nat, i = (j : Int) := ⟨i.toNat, by omega⟩
        have hj : j < rs.length := by omega
        have a1 : decide ((j : Int) < 0) = false := decide_eq_false h1
        have a2 : decide ((rs.length : Int) ≤ (j : Int)) = false := decide_eq_false h2
        have a2n : decide (rs.length ≤ j) = false := decide_eq_false (by omega)
        have jB : (j : Int) < (rs.length : Int) := by omega
        obtain ⟨-, h54⟩ := (vldS_iff _).1 hv1
        obtain ⟨b0, o0, rfl, hcj, hrj⟩ := hs.at j hj
        obtain ⟨⟨xr, cr, l⟩, hr⟩ : ∃ r, rs.getD j rw0 = r := ⟨_, rfl⟩
        have hgl : (rs.map (·.l)).getD j [] = l := by rw [getD_map_l, hr]
        have hl : l.length = 54 := by rw [← hgl]; exact h54.getD j (by rw [List.length_map]; exact hj)
        have HIN : Hid (rdC (rs.map (·.l)) (j : Int) = readE l) := by
          show _ = _
          unfold rdC
          rw [if_pos ⟨hv1, by omega, by rw [List.length_map]; omega⟩, Int.toNat_natCast, hgl]
        have HGL := Lib.hid hgl
        rw [hr] at hcj hrj
        obtain ⟨hbt, hxn, hcr1, hcr2⟩ := hrj
        dsimp only at hbt hxn hcr1 hcr2
        obtain ⟨g, o, rfl, hcc⟩ : ∃ g o, xr = some ⟨g, o, none⟩ ∧ ∀ i, i < l.length → w.cell? ⟨g, o + i, none⟩ = some (encB (l.getD i 0)) := by
          rcases hbt with h | ⟨g, o, h1, h2⟩
          · subst h; cases hl
          · exact ⟨g, o, h1, h2⟩
        replace hcj : w.cell? ⟨b0, o0 + j, none⟩ = some (.slice (some ⟨g, o, none⟩) 54 cr) := by rw [hcj]; unfold encR; rw [hl]
        have c0 : w.cell? ⟨g, o, none⟩ = some (.int .u8 ((l.getD 0 0).toNat : Int)) := by have := hcc 0 (by omega); rwa [Nat.add_zero] at this
        have c53 : w.cell? ⟨g, o + 53, none⟩ = some (.int .u8 ((l.getD 53 0).toNat : Int)) := hcc 53 (by omega)
        have hEQ : ∀ y cy m W, Bts W (some ⟨g, o, none⟩) l → Bts W y m → m.length = 54 → Calls Tryz.prog 102 #[.slice (some ⟨g, o, none⟩) 54 cr, .slice y 54 cy] W fun e w' => e = .returned (.bool (l == m)) ∧ Below W.heap.size W w' := fun y cy m W h1 h2 h3 => by
          have := refEqual_any _ _ l m cr cy W h1 h2 (by omega)
          rwa [hl, h3] at this
        rw [hl] at hcr1
        have HL := Lib.hid hl
        clear hr hgl hcc hxn h54 hv hv1 hl
        obtain ⟨z, hz⟩ : ∃ z, l.getD 53 0 = z := ⟨_, rfl⟩
        obtain ⟨n, hnn⟩ : ∃ n, (l.getD 0 0).toNat = n := ⟨_, rfl⟩
        rw [hz] at c53
        rw [hnn] at c0
        have HZ := Lib.hid hz
        have HN := Lib.hid hnn
        have hn256 : n < 256 := by rw [← hnn]; exact UInt8.toNat_lt _
        clear hz hnn
        by_cases he : l = erasedL
        · have HQ : Hid ((l == erasedL) = true) := by show _ = _; rw [beq_iff_eq]; exact he
          have HC : Hid (rdC (rs.map (·.l)) (j : Int) = 6) := by show _ = _; rw [HIN.out]; unfold readE; rw [if_pos he]
          have HM : Hid (rdM (rs.map (·.l)) (j : Int) = []) := by show _ = _; unfold rdM; rw [HC.out]; rfl
          clear he
          go_enter Tryz.func81, Tryz.ntmps81
          go_wp2_with fail
          refine (refValid_any (some ⟨b0, o0, none⟩) rs c _ hs hn).mono ?_
          rintro e w1 ⟨rfl, hw1⟩
          obtain rfl : w = w1 := hw1.symm
          clear hw1
          rw [HV.out]
          go_wp2_with fail
          refine (refErased_any _).mono ?_
          rintro e w2 ⟨xe, ce, rfl, hoe, hb⟩
          have hB2 := hb
          have hl2 := hbt.later hb
          have cz := later hb c0
          have cm := later hb c53
          have hbe := hoe.bts
          clear hb hoe
          go_wp2_with fail
          refine (hEQ xe ce erasedL w2 hl2 hbe erasedL_len).mono ?_
          rintro e w3 ⟨rfl, hb⟩
          have hB3 := thru hB2 hb
          have hl3 := hl2.later hb
          replace cz := later hb cz
          replace cm := later hb cm
          rw [HQ.out]
          clear hb hl2 hB2 hbe
          go_wp2_with fail
          refine bodyPost_ret (v := .tuple #[.slice none 0 0, .int .i64 6]) (by simp [results, Tryz.results81, go_sem]) rfl ⟨none, 0, by rw [HM.out, HC.out]; rfl, by rw [HM.out]; exact OwnsB.nil _ _, hB3⟩
        · have HQ : Hid ((l == erasedL) = false) := by show _ = _; rw [beq_eq_false_iff_ne]; exact he
          by_cases hm : z = 0
          · have z1 : ((z.toNat : Int) != 0) = false := by rw [hm]; rfl
            by_cases h48 : 48 < n
            · have d1 : decide (48 < n) = true := decide_eq_true h48
              have d2 : decide ((48 : Int) < (n : Int)) = true := decide_eq_true (by omega)
              have HC : Hid (rdC (rs.map (·.l)) (j : Int) = 371) := by show _ = _; rw [HIN.out]; unfold readE; rw [if_neg he, HZ.out, hm, if_neg (by simp), HN.out, if_pos h48]
              have HM : Hid (rdM (rs.map (·.l)) (j : Int) = []) := by show _ = _; unfold rdM; rw [HC.out]; rfl
              clear he hm h48
              go_enter Tryz.func81, Tryz.ntmps81
              go_wp2_with fail
              refine (refValid_any (some ⟨b0, o0, none⟩) rs c _ hs hn).mono ?_
              rintro e w1 ⟨rfl, hw1⟩
              obtain rfl : w = w1 := hw1.symm
              clear hw1
              rw [HV.out]
              go_wp2_with fail
              refine (refErased_any _).mono ?_
              rintro e w2 ⟨xe, ce, rfl, hoe, hb⟩
              have hB2 := hb
              have hl2 := hbt.later hb
              have cz := later hb c0
              have cm := later hb c53
              have hbe := hoe.bts
              clear hb hoe
              go_wp2_with fail
              refine (hEQ xe ce erasedL w2 hl2 hbe erasedL_len).mono ?_
              rintro e w3 ⟨rfl, hb⟩
              have hB3 := thru hB2 hb
              have hl3 := hl2.later hb
              replace cz := later hb cz
              replace cm := later hb cm
              rw [HQ.out]
              clear hb hl2 hB2 hbe
              go_wp2_with fail
              refine bodyPost_ret (v := .tuple #[.slice none 0 0, .int .i64 371]) (by simp [results, Tryz.results81, go_sem]) rfl ⟨none, 0, by rw [HM.out, HC.out]; rfl, by rw [HM.out]; exact OwnsB.nil _ _, hB3⟩
            · have d1 : decide (48 < n) = false := decide_eq_false h48
              have d2 : decide ((48 : Int) < (n : Int)) = false := decide_eq_false (by omega)
              have p1 : (1 : Int) ≤ 1 + (n : Int) := by omega
              have p2 : (1 : Int) + (n : Int) ≤ (cr : Int) := by omega
              have hdl : (readD l).length = n := by rw [readD_len l HL.out (by rw [HN.out]; omega), HN.out]
              obtain ⟨d, hd⟩ : ∃ d, readD l = d := ⟨_, rfl⟩
              have hdt : d = (l.drop 1).take n := by rw [← hd, ← HN.out]; rfl
              have HDT := Lib.hid hdt
              rw [hd] at hdl
              have HD := Lib.hid hd
              clear hdt hd
              obtain rfl := hdl
              have hd48 : d.length ≤ 48 := by omega
              have hMID : ∀ W, Bts W (some ⟨g, o, none⟩) l → Bts W (some ⟨g, o + 1, none⟩) d := fun W h1 => by
                have := h1.mid 1 d.length
                rwa [← HDT.out] at this
              have HMID := Lib.hid hMID
              have hEN : ∀ W, Bts W (some ⟨g, o, none⟩) l → Calls Tryz.prog 104 #[.slice (some ⟨g, o + 1, none⟩) d.length (cr - 1)] W fun e w' => ∃ y cap, e = .returned (.slice y 54 cap) ∧ OwnsB W.heap.size w' y cap (encL d) ∧ Below W.heap.size W w' := fun W h1 => refEncode_yes (some ⟨g, o + 1, none⟩) d (cr - 1) W (HMID.out W h1) (fun h => by cases h) hd48
              have HE54 := Lib.hid (encL_len d hd48)
              have HD48 := Lib.hid hd48
              clear hMID hd48
              by_cases hq : l = encL d
              · have HQ2 : Hid ((l == encL d) = true) := by show _ = _; rw [beq_iff_eq]; exact hq
                have HC : Hid (rdC (rs.map (·.l)) (j : Int) = 0) := by show _ = _; rw [HIN.out]; unfold readE; rw [if_neg he, HZ.out, hm, if_neg (by simp), HN.out, if_neg h48, HD.out, if_pos hq]
                have HM : Hid (rdM (rs.map (·.l)) (j : Int) = d) := by show _ = _; unfold rdM; rw [HC.out, if_pos rfl, Int.toNat_natCast, HGL.out, HD.out]
                clear he hm h48 hq
                go_enter Tryz.func81, Tryz.ntmps81
                go_wp2_with fail
                refine (refValid_any (some ⟨b0, o0, none⟩) rs c _ hs hn).mono ?_
                rintro e w1 ⟨rfl, hw1⟩
                obtain rfl : w = w1 := hw1.symm
                clear hw1
                rw [HV.out]
                go_wp2_with fail
                refine (refErased_any _).mono ?_
                rintro e w2 ⟨xe, ce, rfl, hoe, hb⟩
                have hB2 := hb
                have hl2 := hbt.later hb
                have cz := later hb c0
                have cm := later hb c53
                have hbe := hoe.bts
                clear hb hoe
                go_wp2_with fail
                refine (hEQ xe ce erasedL w2 hl2 hbe erasedL_len).mono ?_
                rintro e w3 ⟨rfl, hb⟩
                have hB3 := thru hB2 hb
                have hl3 := hl2.later hb
                replace cz := later hb cz
                replace cm := later hb cm
                rw [HQ.out]
                clear hb hl2 hB2 hbe
                go_wp2_with fail
                refine (hEN w3 hl3).mono ?_
                rintro e w4 ⟨x4, c4, rfl, ho4, hb⟩
                have hB4 := thru hB3 hb
                have hl4 := hl3.later hb
                replace cz := later hb cz
                replace cm := later hb cm
                have hx4 := ho4.bts
                clear hb ho4 hB3 hl3
                go_wp2_with fail
                refine (hEQ x4 c4 (encL d) w4 hl4 hx4 HE54.out).mono ?_
                rintro e w5 ⟨rfl, hb⟩
                have hB5 := thru hB4 hb
                have hl5 := hl4.later hb
                replace cz := later hb cz
                replace cm := later hb cm
                have hz5 : g < w5.heap.size := World.block_lt_of_cell? _ _ cz
                rw [HQ2.out]
                clear hb hl4 hB4 hx4
                go_wp2_with (at_builtin; (refine wpList_app rfl _ _ rfl (l := []) (B := w.heap.size) (OwnsB.made' _ (w5.heap.size) _ hB5.size rfl) rfl (y := some ⟨g, o + 1, none⟩) (m := d) (c := cr - 1) (by show Value.slice _ (1 + d.length - 1) _ = _; rw [Nat.add_sub_cancel_left]) ((HMID.out _ hl5).later (al (Below.refl _ w5) _)) (fun h => by cases h) (by have := HD48.out; simp; omega) (List.nil_append d) (by have := hB5.size; simp; omega) ?_); intro x6 c6 w6 ho hb _; refine Hid.out ?_)
                unfold Hid
                have HO6 := Lib.hid ho
                have hB6 := (al hB5 _).trans hb
                clear ho hb hB5 hl5
                go_wp2_with fail
                refine bodyPost_ret (v := .tuple #[.slice x6 d.length c6, .int .i64 0]) (by simp [results, Tryz.results81, go_sem]) rfl ⟨x6, c6, by rw [HM.out, HC.out], by rw [HM.out]; exact HO6.out, hB6⟩
              · have HQ2 : Hid ((l == encL d) = false) := by show _ = _; rw [beq_eq_false_iff_ne]; exact hq
                have HC : Hid (rdC (rs.map (·.l)) (j : Int) = 371) := by show _ = _; rw [HIN.out]; unfold readE; rw [if_neg he, HZ.out, hm, if_neg (by simp), HN.out, if_neg h48, HD.out, if_neg hq]
                have HM : Hid (rdM (rs.map (·.l)) (j : Int) = []) := by show _ = _; unfold rdM; rw [HC.out]; rfl
                clear he hm h48 hq
                go_enter Tryz.func81, Tryz.ntmps81
                go_wp2_with fail
                refine (refValid_any (some ⟨b0, o0, none⟩) rs c _ hs hn).mono ?_
                rintro e w1 ⟨rfl, hw1⟩
                obtain rfl : w = w1 := hw1.symm
                clear hw1
                rw [HV.out]
                go_wp2_with fail
                refine (refErased_any _).mono ?_
                rintro e w2 ⟨xe, ce, rfl, hoe, hb⟩
                have hB2 := hb
                have hl2 := hbt.later hb
                have cz := later hb c0
                have cm := later hb c53
                have hbe := hoe.bts
                clear hb hoe
                go_wp2_with fail
                refine (hEQ xe ce erasedL w2 hl2 hbe erasedL_len).mono ?_
                rintro e w3 ⟨rfl, hb⟩
                have hB3 := thru hB2 hb
                have hl3 := hl2.later hb
                replace cz := later hb cz
                replace cm := later hb cm
                rw [HQ.out]
                clear hb hl2 hB2 hbe
                go_wp2_with fail
                refine (hEN w3 hl3).mono ?_
                rintro e w4 ⟨x4, c4, rfl, ho4, hb⟩
                have hB4 := thru hB3 hb
                have hl4 := hl3.later hb
                replace cz := later hb cz
                replace cm := later hb cm
                have hx4 := ho4.bts
                clear hb ho4 hB3 hl3
                go_wp2_with fail
                refine (hEQ x4 c4 (encL d) w4 hl4 hx4 HE54.out).mono ?_
                rintro e w5 ⟨rfl, hb⟩
                have hB5 := thru hB4 hb
                have hl5 := hl4.later hb
                replace cz := later hb cz
                replace cm := later hb cm
                have hz5 : g < w5.heap.size := World.block_lt_of_cell? _ _ cz
                rw [HQ2.out]
                clear hb hl4 hB4 hx4
                go_wp2_with fail
                refine bodyPost_ret (v := .tuple #[.slice none 0 0, .int .i64 371]) (by simp [results, Tryz.results81, go_sem]) rfl ⟨none, 0, by rw [HM.out, HC.out]; rfl, by rw [HM.out]; exact OwnsB.nil _ _, hB5⟩
          · have z1 : ((z.toNat : Int) != 0) = true := by
              rw [bne_iff_ne]
              intro h
              exact hm (by rw [← UInt8.toNat_inj]; show z.toNat = 0; omega)
            have HC : Hid (rdC (rs.map (·.l)) (j : Int) = 370) := by show _ = _; rw [HIN.out]; unfold readE; rw [if_neg he, HZ.out, if_pos hm]
            have HM : Hid (rdM (rs.map (·.l)) (j : Int) = []) := by show _ = _; unfold rdM; rw [HC.out]; rfl
            clear he hm
            go_enter Tryz.func81, Tryz.ntmps81
            go_wp2_with fail
            refine (refValid_any (some ⟨b0, o0, none⟩) rs c _ hs hn).mono ?_
            rintro e w1 ⟨rfl, hw1⟩
            obtain rfl : w = w1 := hw1.symm
            clear hw1
            rw [HV.out]
            go_wp2_with fail
            refine (refErased_any _).mono ?_
            rintro e w2 ⟨xe, ce, rfl, hoe, hb⟩
            have hB2 := hb
            have hl2 := hbt.later hb
            have cz := later hb c0
            have cm := later hb c53
            have hbe := hoe.bts
            clear hb hoe
            go_wp2_with fail
            refine (hEQ xe ce erasedL w2 hl2 hbe erasedL_len).mono ?_
            rintro e w3 ⟨rfl, hb⟩
            have hB3 := thru hB2 hb
            have hl3 := hl2.later hb
            replace cz := later hb cz
            replace cm := later hb cm
            rw [HQ.out]
            clear hb hl2 hB2 hbe
            go_wp2_with fail
            refine bodyPost_ret (v := .tuple #[.slice none 0 0, .int .i64 370]) (by simp [results, Tryz.results81, go_sem]) rfl ⟨none, 0, by rw [HM.out, HC.out]; rfl, by rw [HM.out]; exact OwnsB.nil _ _, hB3⟩

end

end Go.Proofs.YtapefonhgkjgnaaGreat
