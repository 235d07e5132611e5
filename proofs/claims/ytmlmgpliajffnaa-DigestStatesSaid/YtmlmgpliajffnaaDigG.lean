/- WALKS of the digest layer: Pair, the reference's Pair, Text and Parse. -/
import Derived.Test.YtmlmgpliajffnaaDigE
import Derived.Test.YtmlmgpliajffnaaDigF
namespace Go.Proofs.Ytmlmgpliajffnaa
open Go.RowKit

theorem OwnsB.none_cap {B : Nat} {w : World} {x : Option Addr} {cap : Nat} {l : List UInt8} (h : OwnsB B w x cap l) : x = none → cap = 0 := by
  intro e
  rcases h.2 with ⟨hv, _⟩ | ⟨g, cap', cur, hv, _⟩
  · simp only [Value.slice.injEq] at hv; exact hv.2.2
  · simp only [Value.slice.injEq] at hv; rw [e] at hv; exact absurd hv.1 (by simp)
theorem OwnsB.later {B : Nat} {w w' : World} {x : Option Addr} {cap : Nat} {l : List UInt8} (h : OwnsB B w x cap l) (hb : Below w.heap.size w w') : OwnsB B w' x cap l :=
  h.turn (T := fun _ => False) (Turns.of_below hb (Nat.le_refl _)) (fun _ _ h => h)

def NumOf (d : D64) (w : World) (e : Ending) (w' : World) : Prop := e = .returned (.int .u64 (num d)) ∧ Below w.heap.size w w'

theorem pair_any (a b : D64) (w : World) : Calls Try.prog 22 #[.int .u64 (num a), .int .u64 (num b)] w (NumOf (Dig.pair a b) w) := by
  have HP : Hid (num (Dig.ofL (Dig.bytes a ++ Dig.bytes b)) = num (Dig.pair a b)) := rfl
  obtain ⟨la, hla⟩ : ∃ l, Dig.bytes a = l := ⟨_, rfl⟩
  obtain ⟨lb, hlb⟩ : ∃ l, Dig.bytes b = l := ⟨_, rfl⟩
  have na : la.length = 8 := by rw [← hla]; exact Dig.bytes_length _
  have nb : lb.length = 8 := by rw [← hlb]; exact Dig.bytes_length _
  have ca := bytes_any a
  have cb := bytes_any b
  rw [hla] at ca HP
  rw [hlb] at cb HP
  have HA := Lib.hid na
  have HB := Lib.hid nb
  clear hla hlb na nb
  obtain ⟨l, hl⟩ : ∃ l, la ++ lb = l := ⟨_, rfl⟩
  go_enter Try.func22, Try.ntmps22
  go_wp2_with fail
  refine (ca _).mono ?_
  rintro e w1 ⟨b1, rfl, y1, hb1⟩
  clear ca
  go_wp2_with fail
  refine (cb _).mono ?_
  rintro e w2 ⟨b2, rfl, y2, hb2⟩
  clear cb
  have z1 := y1.later hb2
  go_wp2_with (at_builtin; refine wpList_app_full rfl _ _ rfl (l := la) (cap := la.length) rfl z1 (fun h => by cases h) (m := lb) rfl y2 (by have := HB.out; omega) (by have := HA.out; have := HB.out; omega) hl ?_; intro x' cap' w3 h1 h2)
  have y3 := h1.bts
  clear y1 y2 z1 h1
  have hll : (l.length : Int) ≤ 100000 := by rw [← hl]; have := HA.out; have := HB.out; simp; omega
  rw [hl] at HP
  clear hl
  go_wp2_with fail
  refine (of_any _ l _ _ hll y3).mono ?_
  rintro e w4 ⟨rfl, h4⟩
  rw [HP.out]
  clear y3 hll
  go_wp2_with fail
  go_ret
  exact ⟨rfl, thru (thru (thru hb1 hb2) h2) h4⟩

theorem refPair_any (a b : D64) (w : World) : Calls Try.prog 23 #[.int .u64 (num a), .int .u64 (num b)] w (NumOf (Dig.pair a b) w) := by
  have HP : Hid (num (Dig.ofL (Dig.bytes a ++ Dig.bytes b)) = num (Dig.pair a b)) := rfl
  obtain ⟨la, hla⟩ : ∃ l, Dig.bytes a = l := ⟨_, rfl⟩
  obtain ⟨lb, hlb⟩ : ∃ l, Dig.bytes b = l := ⟨_, rfl⟩
  have na : la.length = 8 := by rw [← hla]; exact Dig.bytes_length _
  have nb : lb.length = 8 := by rw [← hlb]; exact Dig.bytes_length _
  have ca := refBytes_any a
  have cb := refBytes_any b
  rw [hla] at ca HP
  rw [hlb] at cb HP
  have HA := Lib.hid na
  have HB := Lib.hid nb
  clear hla hlb na nb
  obtain ⟨l, hl⟩ : ∃ l, la ++ lb = l := ⟨_, rfl⟩
  go_enter Try.func23, Try.ntmps23
  go_wp2_with fail
  refine (ca _).mono ?_
  rintro e w1 ⟨b1, c1, rfl, y1, hb1⟩
  have Y1 := Lib.hid y1
  clear ca y1
  go_wp2_with fail
  refine (cb _).mono ?_
  rintro e w2 ⟨b2, c2, rfl, y2, hb2⟩
  have Y2 := Lib.hid y2
  clear cb y2
  go_wp2_with (at_builtin; refine wpList_app rfl _ _ rfl (l := la) (B := w.heap.size) (Y1.out.later hb2) rfl (m := lb) rfl Y2.out.bts Y2.out.none_cap (by have := HA.out; have := HB.out; omega) hl (by have := hb1.size; have := hb2.size; omega) ?_; intro x' cap' w3 h1 h2 _)
  have y3 := h1.bts
  have hB := (thru hb1 hb2).trans h2
  clear Y1 Y2 h1 h2 hb1 hb2
  have hll : l.length ≤ 100000 := by rw [← hl]; have := HA.out; have := HB.out; simp; omega
  rw [hl] at HP
  clear hl
  go_wp2_with fail
  refine (refOf_any _ l _ _ hll y3).mono ?_
  rintro e w4 ⟨rfl, rfl⟩
  rw [HP.out]
  clear y3 hll
  go_wp2_with fail
  go_ret
  exact ⟨rfl, hB⟩

def RTRel (d : D64) (u0 u4 u5 : Value) : Prop :=
  ∃ (j : Nat), j ≤ 16 ∧ u5 = .int .i64 (j : Int) ∧ u0 = .int .u64 (num (d >>> (4 * j))) ∧ u4 = .string ⟨((textL d).drop (16 - j)).toArray⟩

@[go_sem] theorem tmod_16 (x : D64) : (num x).tmod 16 = ((nib x : Nat) : Int) := by
  have h0 := num_nonneg x
  rw [Int.tmod_eq_emod_of_nonneg h0]; unfold num nib; simp

theorem textL_drop (d : D64) (j : Nat) (h : j < 16) : (textL d).drop (16 - (j + 1)) = hexU (nib (d >>> (4 * j))) :: (textL d).drop (16 - j) := by
  match j, h with | 0, _ => simp [textL] | 1, _ => rfl | 2, _ => rfl | 3, _ => rfl | 4, _ => rfl | 5, _ => rfl | 6, _ => rfl | 7, _ => rfl | 8, _ => rfl | 9, _ => rfl | 10, _ => rfl | 11, _ => rfl | 12, _ => rfl | 13, _ => rfl | 14, _ => rfl | 15, _ => rfl | k + 16, h => exact absurd h (by omega)
theorem hex_at (k : Nat) (h : k < 16) : (⟨#[48, 49, 50, 51, 52, 53, 54, 55, 56, 57, 97, 98, 99, 100, 101, 102]⟩ : ByteArray).extract k (k + 1) = ⟨#[hexU k]⟩ := by
  match k, h with | 0, _ => rfl | 1, _ => rfl | 2, _ => rfl | 3, _ => rfl | 4, _ => rfl | 5, _ => rfl | 6, _ => rfl | 7, _ => rfl | 8, _ => rfl | 9, _ => rfl | 10, _ => rfl | 11, _ => rfl | 12, _ => rfl | 13, _ => rfl | 14, _ => rfl | 15, _ => rfl | k + 16, h => exact absurd h (by omega)

set_option maxHeartbeats 1000000 in
theorem refText_any (d : D64) (w : World) : Calls Try.prog 24 #[.int .u64 (num d)] w fun e w' => e = .returned (.string ⟨(textL d).toArray⟩) ∧ w' = w := by
  go_enter Try.func24, Try.ntmps24
  go_wp2_with fail
  go_loop [0, 4, 5] (fun u0 u4 u5 => RTRel d u0 u4 u5) (fun _ _ u5 => 16 - (intOf u5).toNat)
  case atStart => exact ⟨0, by omega, rfl, by simp, rfl⟩
  case round =>
    obtain ⟨j, hj, rfl, rfl, rfl⟩ := hrel
    by_cases hlt : j < 16
    · obtain ⟨z, hz⟩ : ∃ z, d >>> (4 * j) = z := ⟨_, rfl⟩
      have hn := nib_lt z
      obtain ⟨t, ht⟩ : ∃ t, (⟨((textL d).drop (16 - j)).toArray⟩ : ByteArray) = t := ⟨_, rfl⟩
      have hd : (d >>> (4 * j)) >>> 4 = d >>> (4 * (j + 1)) := by rw [Nat.mul_add, Nat.mul_one, BitVec.shiftRight_add]
      rw [hz] at hd ⊢
      rw [ht]
      have HT := Lib.hid ht
      have HD := Lib.hid hd
      have HZ := Lib.hid hz
      have hts : t.size ≤ 16 := by rw [← ht]; simp [ByteArray.size]; have := textL_length d; omega
      have hx := hex_at _ hn
      clear ht hd hz
      go_wp2_with fail
      go_round
      case rel =>
        refine ⟨j + 1, by omega, by go_num, by rw [HD.out], ?_⟩
        rw [textL_drop d j hlt, HZ.out, ← HT.out]
        congr 1
      case measure => simp [intOf]; omega
    · obtain rfl : j = 16 := by omega
      go_wp2_with fail
      go_ret
      exact ⟨rfl, rfl⟩

@[go_sem] theorem mul_16 (x : D64) : IntKind.u64.wrap (16 * num x) = num (x <<< 4) := by
  rw [Int.mul_comm]; exact shl_of x 4
theorem add_nib (x : D64) (v : Nat) (h : v < 16) : IntKind.u64.wrap (num (x <<< 4) + (v : Int)) = num (x <<< 4 ||| BitVec.ofNat 64 v) := by
  have hv : (v : Int) = num (BitVec.ofNat 64 v) := by unfold num; rw [BitVec.toNat_ofNat, Nat.mod_eq_of_lt (by omega)]
  rw [hv, u64_add]
  congr 1
  refine BitVec.add_eq_or_of_and_eq_zero _ _ ?_
  apply BitVec.eq_of_getLsbD_eq
  intro i hi
  rw [BitVec.getLsbD_and, BitVec.getLsbD_shiftLeft]
  by_cases h4 : i < 4
  · simp [h4]
  · have : (BitVec.ofNat 64 v).getLsbD i = false := by
      rw [BitVec.getLsbD_ofNat]
      simp
      intro _
      exact Nat.testBit_lt_two_pow (Nat.lt_of_lt_of_le h (by have : 2 ^ 4 ≤ 2 ^ i := Nat.pow_le_pow_right (by decide) (by omega); simpa using this))
    rw [this]; simp

theorem dval_all : ∀ n : Fin 256, dval (UInt8.ofNat n.1) = if 48 ≤ n.1 ∧ n.1 ≤ 57 then n.1 - 48 else if 97 ≤ n.1 ∧ n.1 ≤ 102 then n.1 - 87 else 16 := by decide +kernel
theorem dval_of (c : UInt8) : dval c = if 48 ≤ c.toNat ∧ c.toNat ≤ 57 then c.toNat - 48 else if 97 ≤ c.toNat ∧ c.toNat ≤ 102 then c.toNat - 87 else 16 := by
  have := dval_all ⟨c.toNat, c.toNat_lt⟩
  simpa using this

theorem no16 {l m : List Nat} {v : Nat} (h : m = l ++ [v]) (hl : ∀ u, u ∈ l → ¬ u = 16) (hv : ¬ v = 16) : ∀ u, u ∈ m → ¬ u = 16 := by
  intro u hu
  rw [h] at hu
  rcases List.mem_append.1 hu with h | h
  · exact hl u h
  · simp at h; subst h; exact hv
def RPRel (s : ByteArray) (u4 u5 : Value) : Prop :=
  ∃ (j : Nat), j ≤ s.size ∧ u5 = .int .i64 (j : Int) ∧ u4 = .int .u64 (num (foldV 0#64 ((vals s).take j))) ∧ (∀ v, v ∈ (vals s).take j → ¬ v = 16) ∧ (0 < j → s.size = 16)
def RefParseOf (s : ByteArray) (w : World) (e : Ending) (w' : World) : Prop :=
  (∃ d, parseR s = some d ∧ e = .returned (.tuple #[.int .u64 (num d), .int .i64 0]) ∨ parseR s = none ∧ e = .returned (.tuple #[.int .u64 0, .int .i64 50])) ∧ w' = w

set_option maxHeartbeats 2000000 in
theorem refParse_any (s : ByteArray) (w : World) (hs : s.size ≤ 1000) : Calls Try.prog 18 #[.string s] w (RefParseOf s w) := by
  go_enter Try.func18, Try.ntmps18
  go_wp2_with fail
  go_loop [4, 5] (fun u4 u5 => RPRel s u4 u5) (fun _ u5 => s.size - (intOf u5).toNat)
  case atStart => exact ⟨0, by omega, rfl, rfl, by simp, by omega⟩
  case round =>
    obtain ⟨j, hj, rfl, rfl, hg, h16⟩ := hrel
    obtain ⟨x, hx⟩ : ∃ x, foldV 0#64 ((vals s).take j) = x := ⟨_, rfl⟩
    rw [hx]
    have HX := Lib.hid hx
    clear hx
    by_cases hlt : j < s.size
    · obtain ⟨c, hc⟩ : ∃ c, s[j] = c := ⟨_, rfl⟩
      have hcd : s.data.toList.getD j 0 = c := by rw [← hc, List.getD_eq_getElem?_getD, List.getElem?_eq_getElem (by simpa using hlt)]; rfl
      have hv := vals_take hlt
      have hm := vals_mem hlt
      have hd := dval_of c
      rw [hcd] at hv hm
      have HV := Lib.hid hv
      have HM := Lib.hid hm
      have h256 := c.toNat_lt
      have HH := Lib.hid h16
      have HG := Lib.hid hg
      clear hcd hv hm h16 hg
      by_cases hn : s.size = 16
      · have hb : (((s.size : Nat) : Int) != 16) = false := by simp; omega
        have HN := Lib.hid hn
        clear hn
        by_cases h1 : 48 ≤ c.toNat ∧ c.toNat ≤ 57
        · rw [if_pos h1] at hd
          have HD := Lib.hid hd
          clear hd
          obtain ⟨h2, h3⟩ := h1
          have hq : (((c.toNat : Nat) : Int) - 48 == 16) = false := by simp; omega
          go_wp2_with fail
          go_round
          case rel => exact ⟨j + 1, by omega, by go_num, by rw [show ((c.toNat : Int) - 48) = ((c.toNat - 48 : Nat) : Int) by omega, add_nib _ _ (by omega), HV.out, foldV_snoc, HX.out, HD.out], no16 HV.out HG.out (by rw [HD.out]; omega), fun _ => HN.out⟩
          case measure => simp [intOf]; omega
        · rw [if_neg h1] at hd
          by_cases h5 : 97 ≤ c.toNat ∧ c.toNat ≤ 102
          · rw [if_pos h5] at hd
            have HD := Lib.hid hd
            clear hd h1
            obtain ⟨h2, h3⟩ := h5
            have hq : (((c.toNat : Nat) : Int) - 97 + 10 == 16) = false := by simp; omega
            go_wp2_with fail
            go_round
            case rel => exact ⟨j + 1, by omega, by go_num, by rw [show ((c.toNat : Int) - 97 + 10) = ((c.toNat - 87 : Nat) : Int) by omega, add_nib _ _ (by omega), HV.out, foldV_snoc, HX.out, HD.out], no16 HV.out HG.out (by rw [HD.out]; omega), fun _ => HN.out⟩
            case measure => simp [intOf]; omega
          · rw [if_neg h5] at hd
            have hp : parseR s = none := by unfold parseR; rw [if_pos HN.out]; exact parseF_bad _ _ _ HM.out hd
            have HP := Lib.hid hp
            clear hd hp
            by_cases h6 : c.toNat < 48
            · clear h1 h5
              go_wp2_with fail
              go_ret2
              exact ⟨⟨0, .inr ⟨HP.out, rfl⟩⟩, rfl⟩
            · by_cases h7 : c.toNat < 97
              · have h8 : 57 < c.toNat := by omega
                clear h1 h5
                go_wp2_with fail
                go_ret2
                exact ⟨⟨0, .inr ⟨HP.out, rfl⟩⟩, rfl⟩
              · have h8 : 102 < c.toNat := by omega
                clear h1 h5
                go_wp2_with fail
                go_ret2
                exact ⟨⟨0, .inr ⟨HP.out, rfl⟩⟩, rfl⟩
      · have hb : (((s.size : Nat) : Int) != 16) = true := by simp; omega
        have hp : parseR s = none := by unfold parseR; rw [if_neg hn]
        have HP := Lib.hid hp
        clear hd hp hn
        go_wp2_with fail
        all_goals
          go_ret2
          exact ⟨⟨0, .inr ⟨HP.out, rfl⟩⟩, rfl⟩
    · obtain rfl : j = s.size := by omega
      have hlen : (vals s).length = s.size := by simp [vals]
      rw [List.take_of_length_le (by omega)] at hg HX
      have HG := Lib.hid hg
      clear hg hlen
      by_cases hn : s.size = 16
      · have hp : parseR s = some x := by unfold parseR; rw [if_pos hn, ← HX.out]; exact parseF_ok _ _ HG.out
        have hb : (((s.size : Nat) : Int) != 16) = false := by simp; omega
        have HP := Lib.hid hp
        clear hp hn h16
        go_wp2_with fail
        go_ret2
        exact ⟨⟨x, .inl ⟨HP.out, rfl⟩⟩, rfl⟩
      · have hb : (((s.size : Nat) : Int) != 16) = true := by simp; omega
        have hp : parseR s = none := by unfold parseR; rw [if_neg hn]
        have HP := Lib.hid hp
        clear hp hn h16
        go_wp2_with fail
        go_ret2
        exact ⟨⟨0, .inr ⟨HP.out, rfl⟩⟩, rfl⟩

end Go.Proofs.Ytmlmgpliajffnaa
