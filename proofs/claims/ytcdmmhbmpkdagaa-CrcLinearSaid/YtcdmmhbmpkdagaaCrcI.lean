/- WALKS of the crc layer: numbers of trailers; a burst in bytes. -/
import Derived.Test.YtcdmmhbmpkdagaaCrcH
import Derived.Test.YtcdmmhbmpkdagaaPureBurst
import Derived.Test.YtcdmmhbmpkdagaaTail
namespace Go.Proofs.Ytcdmmhbmpkdagaa
open Go.RowKit

theorem num4_of {p q r s : UInt8} {t : W32} (h : Crc.trailer t = [p, q, r, s]) : num4 p q r s = t := Crc.sum_four_inj (by rw [trailer_num4, h])
theorem wrap8u (n : Int) : IntKind.u8.wrap n = n % 256 := by simp [IntKind.wrap, IntKind.bits, IntKind.signed]
theorem shl8 (k : Nat) : IntKind.u8.wrap (2 ^ k) = ((Crc.mask8 k).toNat : Int) := by
  have h : (Crc.mask8 k).toNat = 2 ^ k % 256 := by
    show (1#8 <<< k).toNat = _
    rw [BitVec.toNat_shiftLeft, Nat.shiftLeft_eq]; simp
  rw [wrap8u, h, Int.natCast_emod, Int.natCast_pow]; rfl

theorem OwnsB.le_cap {B : Nat} {w : World} {x : Option Addr} {cap : Nat} {l : List UInt8} (h : OwnsB B w x cap l) : l.length ≤ cap ∧ cap ≤ 9223372036854775807 := by
  rcases h.2 with ⟨hv, h0⟩ | ⟨g, c, cur, hv, _, _, h1, h2, _⟩
  · simp only [Value.slice.injEq] at hv; omega
  · simp only [Value.slice.injEq] at hv; unfold maxLen at h2; omega
theorem check_yes' (g o : Nat) (l m : List UInt8) (p q r s : UInt8) (hl : l = m ++ [p, q, r, s]) (c : Nat) (w : World) (yd : Bts w (some ⟨g, o, none⟩) l) (hm : m.length ≤ 100000) (hc : l.length ≤ c ∧ c ≤ 9223372036854775807) (hs : num4 p q r s = Crc.sum m) :
    Calls Try.prog 11 #[.slice (some ⟨g, o, none⟩) l.length c] w (YesCheck m w) := by
  subst hl
  have hn : (m ++ [p, q, r, s]).length = m.length + 4 := by simp
  rw [hn] at hc ⊢
  exact check_yes g o m p q r s c w yd hm hc.1 hc.2 hs
theorem check_no' (g o : Nat) (l m : List UInt8) (p q r s : UInt8) (hl : l = m ++ [p, q, r, s]) (c : Nat) (w : World) (yd : Bts w (some ⟨g, o, none⟩) l) (hm : m.length ≤ 100000) (hc : l.length ≤ c ∧ c ≤ 9223372036854775807) (hs : (num4 p q r s != Crc.sum m) = true) :
    Calls Try.prog 11 #[.slice (some ⟨g, o, none⟩) l.length c] w (NoCheck w) := by
  subst hl
  have hn : (m ++ [p, q, r, s]).length = m.length + 4 := by simp
  rw [hn] at hc ⊢
  exact check_no g o m p q r s c w yd hm hc.1 hc.2 hs
@[go_sem] theorem shr32_16 (x : W32) : n32 x / (65536 : Int) = n32 (x >>> 16) := shr32 x 16
@[go_sem] theorem shr32_24 (x : W32) : n32 x / (16777216 : Int) = n32 (x >>> 24) := shr32 x 24

def FlRel (p : W32) (c : Nat) (l : List UInt8) (x : Option Addr) (cap : Nat) (w : World) (u13 : Value) (wr : World) : Prop :=
  ∃ k : Nat, k ≤ 32 ∧ u13 = .int .i64 (k : Int) ∧ OwnsB w.heap.size wr x cap (Crc.flipN p c l k) ∧ Below w.heap.size w wr

set_option maxRecDepth 100000 in
set_option maxHeartbeats 2000000 in
theorem flipped_any (x : Option Addr) (l : List UInt8) (cap c : Nat) (p : W32) (w : World) (hx : Bts w x l) (hn : x = none → cap = 0) (hl : l.length ≤ 1000) (hc : c ≤ 100000) :
    Calls Try.prog 12 #[.slice x l.length cap, .int .i64 (c : Int), .int .u32 (n32 p)] w (CloneOf (Crc.flipN (p ||| 1#32) c l 32) w) := by
  have hB := Below.refl w.heap.size w
  have L0 := Lib.hid (show [] ++ l = l from rfl)
  have hp : bits .or .u32 (n32 p) 1 = n32 (p ||| 1#32) := by rw [← u32_or]; congr 1
  obtain ⟨q, hq⟩ : ∃ q, p ||| 1#32 = q := ⟨_, rfl⟩
  rw [hq] at hp ⊢
  clear hq
  go_enter Try.func12, Try.ntmps12
  go_wp2_with (at_builtin; (refine wpList_app rfl _ _ rfl (l := []) (B := w.heap.size) (OwnsB.made' _ (w.heap.size) _ (Nat.le_refl _) rfl) rfl (m := l) rfl (hx.later (al hB _)) hn (by simp; omega) L0.out (by simp) ?_); intro x1 c1 w1 ho hb _; refine Hid.out ?_)
  unfold Hid
  replace hB := (al hB _).trans (hb.mono (by have := hB.size; first | omega | (simp <;> omega)))
  have O1 := Lib.hid ho
  clear ho hb hx L0
  go_wp2_with fail
  go_loopw [13] (fun u13 wr => FlRel q c l x1 c1 w u13 wr) (fun u13 _ => 32 - (intOf u13).toNat)
  case atStart => exact ⟨0, by omega, rfl, O1.out, hB⟩
  case round =>
    clear O1 hB
    obtain ⟨k, hk, rfl, ho, hB⟩ := hrel
    obtain ⟨m, hm⟩ : ∃ m, Crc.flipN q c l k = m := ⟨_, rfl⟩
    have hml : m.length = l.length := by rw [← hm]; exact Crc.flipN_length _ _ _ _
    rw [hm] at ho
    have HO := Lib.hid ho
    have HM := Lib.hid hm
    clear hm ho
    by_cases hlt : k < 32
    · have hkb : decide ((k : Int) < 32) = true := by simp; omega
      have hsh : n32 q / 2 ^ k = n32 (q >>> k) := by rw [← shr32]; simp
      have hbit := bitsh q k
      by_cases hb : q.getLsbD k = true
      · rw [hb] at hbit
        by_cases hi : c + k < 8 * l.length
        · have hdi : decide ((c : Int) + (k : Int) < 8 * (l.length : Int)) = true := by simp; omega
          obtain ⟨g, rfl⟩ := HO.out.some_of (by omega)
          obtain ⟨d, hd⟩ : ∃ d, c + k = d := ⟨_, rfl⟩
          obtain ⟨e, he⟩ : ∃ e, d / 8 = e := ⟨_, rfl⟩
          obtain ⟨j, hj⟩ : ∃ j, d % 8 = j := ⟨_, rfl⟩
          have hel : e < l.length := by omega
          have HN : Hid (Crc.flipN q c l (k + 1) = m.set e (m.getD e 0 ^^^ Crc.mask8 j)) := by
            show _ = _
            rw [Crc.flipN, Crc.flipS, HM.out, if_pos ⟨hb, by rw [hml]; exact hi⟩, hd, Crc.flipB, he, hj]
          obtain ⟨v, hv⟩ : ∃ v, m.getD e 0 = v := ⟨_, rfl⟩
          obtain ⟨t, ht⟩ : ∃ t, v ^^^ Crc.mask8 j = t := ⟨_, rfl⟩
          rw [hv, ht] at HN
          have hxo : bits .xor .u8 (v.toNat : Int) ((Crc.mask8 j).toNat : Int) = (t.toNat : Int) := by rw [u8_xor, ht]
          have hmk := shl8 j
          have hc8 : (c : Int) + (k : Int) = (d : Int) := by omega
          have hd8 : (d : Int) / 8 = (e : Int) := by omega
          have hm8 : (d : Int) % 8 = (j : Int) := by omega
          rw [hc8] at hdi
          have HLEN := Lib.hid hml
          have HV := Lib.hid hv
          clear hd he hj hv ht hb hml
          go_wp2_with fail
          refine wp_tail 10 (fun W => OwnsB w.heap.size W (some ⟨g, 0, none⟩) c1 m ∧ Below w.heap.size w W) (by kernel_rfl) (by kernel_rfl) ⟨HO.out.turn ((Turns.refl (fun _ => False) wr).drew) (fun _ _ h => h), hB.drew⟩ ?_
          clear HO hB
          rintro W ⟨ho, hB⟩
          have hce := ho.cell e (by have := HLEN.out; omega)
          rw [HV.out] at hce
          have hfe := ho.free e
          have HO := Lib.hid ho
          clear ho
          have hwe : IntKind.i64.wrap (e : Int) = (e : Int) := by simp [IntKind.wrap, IntKind.bits, IntKind.signed]; omega
          have hmt : (d : Int).tmod 8 = (j : Int) := by rw [Int.tmod_eq_emod_of_nonneg (by omega)]; exact hm8
          have hwj : IntKind.i64.wrap (j : Int) = (j : Int) := by simp [IntKind.wrap, IntKind.bits, IntKind.signed]; omega
          simp only [List.take_succ_cons, List.take_zero, List.drop_succ_cons, List.drop_zero]
          repeat still_step
          refine wpStill_nil ?_
          go_wp2_with fail
          exact ⟨⟨k + 1, by omega, by go_num, by rw [HN.out]; exact HO.out.set e t, hB.setCell (p := ⟨g, e, none⟩) (HO.out.low g rfl).1 _⟩, by simp [intOf]; omega⟩
        · have hdi : decide ((c : Int) + (k : Int) < 8 * (l.length : Int)) = false := by simp; omega
          have HN : Hid (Crc.flipN q c l (k + 1) = m) := by
            show _ = _
            rw [Crc.flipN, Crc.flipS, HM.out, if_neg (fun h => hi (by rw [← hml]; exact h.2))]
          clear hb hml
          go_wp2_with fail
          exact ⟨⟨k + 1, by omega, by go_num, by rw [HN.out]; exact HO.out, hB⟩, by simp [intOf]; omega⟩
      · have hb := eq_false_of_ne_true hb
        rw [hb] at hbit
        have HN : Hid (Crc.flipN q c l (k + 1) = m) := by
          show _ = _
          rw [Crc.flipN, Crc.flipS, HM.out, if_neg (fun h => by rw [hb] at h; cases h.1)]
        clear hb hml
        go_wp2_with fail
        exact ⟨⟨k + 1, by omega, by go_num, by rw [HN.out]; exact HO.out, hB⟩, by simp [intOf]; omega⟩
    · obtain rfl : k = 32 := by omega
      have hlen : (l.length : Int) = (m.length : Int) := by omega
      have HO2 := HO.out
      go_wp2_with fail
      go_ret
      rw [HM.out]
      exact ⟨x1, c1, by rw [hml]; rfl, HO2, hB⟩

end Go.Proofs.Ytcdmmhbmpkdagaa
