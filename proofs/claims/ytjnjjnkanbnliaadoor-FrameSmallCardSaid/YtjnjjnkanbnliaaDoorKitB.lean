/- WALKS of the laws' kit on bytes: Pick, SameBytes, marks, LentBytes, KeptBytes. -/
import Derived.Test.YtjnjjnkanbnliaaDoorCrcS
import Derived.BigQuiet
namespace Go.Proofs.YtjnjjnkanbnliaaDoor
open Go.RowKit

theorem pick_any (x : Int) (n : Nat) (w : World) (h1 : 1 ≤ n) (hn : n ≤ 1000000) (_hx : -9223372036854775808 ≤ x ∧ x ≤ 9223372036854775807) :
    Calls Tryd.prog 26 #[.int .i64 x, .int .i64 (n : Int)] w fun e w' => e = .returned (.int .i64 (x % (n : Int))) ∧ w' = w := by
  have d1 : decide ((n : Int) < 1) = false := decide_eq_false (by omega)
  have d0 : ((n : Int) == 0) = false := by simp; omega
  have hr0 : 0 ≤ x % (n : Int) := Int.emod_nonneg _ (by omega)
  have hr1 : x % (n : Int) < n := Int.emod_lt_of_pos _ (by omega)
  by_cases hs : x.tmod n < 0
  · have e : x.tmod (n : Int) + (n : Int) = x % (n : Int) := by
      have h1 := Int.mul_tdiv_add_tmod x n
      have h2 : x % (n : Int) = (x.tmod n) % n := by conv => lhs; rw [← h1]
                                                     exact Int.mul_add_emod_self_left ..
      have h3 : (x.tmod n) % (n : Int) = (x.tmod n + n) % n := by rw [Int.add_emod_right]
      have h4 := Int.lt_tmod_of_pos x (show (0 : Int) < n by omega)
      rw [h2, h3, Int.emod_eq_of_lt (by omega) (by omega)]
    have HE := Lib.hid e
    have hlo := Int.lt_tmod_of_pos x (show (0 : Int) < n by omega)
    clear e
    have d2 : decide (x.tmod (n : Int) < 0) = true := decide_eq_true hs
    go_enter Tryd.func26, Tryd.ntmps26
    go_wp2_with fail
    go_ret
    rw [← HE.out]
    exact ⟨rfl, rfl⟩
  · have e : x.tmod (n : Int) = x % (n : Int) := by
      have h1 := Int.mul_tdiv_add_tmod x n
      have h2 : x % (n : Int) = (x.tmod n) % n := by conv => lhs; rw [← h1]
                                                     exact Int.mul_add_emod_self_left ..
      have h4 := Int.tmod_lt_of_pos x (show (0 : Int) < n by omega)
      rw [h2, Int.emod_eq_of_lt (by omega) (by omega)]
    have HE := Lib.hid e
    have hlo := Int.tmod_lt_of_pos x (show (0 : Int) < n by omega)
    clear e
    have d2 : decide (x.tmod (n : Int) < 0) = false := decide_eq_false hs
    go_enter Tryd.func26, Tryd.ntmps26
    go_wp2_with fail
    go_ret
    rw [← HE.out]
    exact ⟨rfl, rfl⟩

theorem take_eq_succ (l m : List UInt8) (k : Nat) (h1 : k < l.length) (h2 : k < m.length) (h : l.take k = m.take k) (e : l.getD k 0 = m.getD k 0) : l.take (k + 1) = m.take (k + 1) := by
  rw [take_succ_getD l k h1, take_succ_getD m k h2, h, e]
def SbRel (l m : List UInt8) (w : World) (u5 : Value) (wr : World) : Prop := ∃ k : Nat, k ≤ l.length ∧ u5 = .int .i64 (k : Int) ∧ l.take k = m.take k ∧ Below w.heap.size w wr
set_option maxHeartbeats 1000000 in
theorem sameb_any (x : Option Addr) (l : List UInt8) (c : Nat) (y : Option Addr) (m : List UInt8) (d : Nat) (w : World) (hx : Bts w x l) (hy : Bts w y m) (hl : l.length ≤ 1000000) (hm : m.length ≤ 1000000) :
    Calls Tryd.prog 20 #[.slice x l.length c, .slice y m.length d] w fun e w' => e = .returned (.bool (l == m)) ∧ Below w.heap.size w w' := by
  by_cases hlen : l.length = m.length
  · have hn : ((l.length : Int) != (m.length : Int)) = false := by simp; omega
    have HL := Lib.hid hlen
    clear hlen
    go_enter Tryd.func20, Tryd.ntmps20
    go_wp2_with fail
    go_loopw [5] (fun u5 wr => SbRel l m w u5 wr) (fun u5 _ => l.length - (intOf u5).toNat)
    case atStart => exact ⟨0, by omega, rfl, rfl, Below.refl _ _⟩
    case round =>
      obtain ⟨k, hk, rfl, ht, hB⟩ := hrel
      have HT := Lib.hid ht
      clear ht
      by_cases hlt : k < l.length
      · have hkb : decide ((k : Int) < (l.length : Int)) = true := by simp; omega
        have hlm : k < m.length := by have := HL.out; omega
        obtain ⟨gx, ox, rfl, hcx⟩ := (hx.later hB).resolve_left (by intro e; subst e; simp at hlt)
        obtain ⟨gy, oy, rfl, hcy⟩ := (hy.later hB).resolve_left (by intro e; subst e; simp at hlm)
        have cx := hcx k hlt
        have cy := hcy k hlm
        unfold encB at cx cy
        clear hcx hcy
        obtain ⟨u, hu⟩ : ∃ u, l.getD k 0 = u := ⟨_, rfl⟩
        obtain ⟨v, hv⟩ : ∃ u, m.getD k 0 = u := ⟨_, rfl⟩
        rw [hu] at cx
        rw [hv] at cy
        by_cases he : u = v
        · have hq : ((u.toNat : Int) != (v.toNat : Int)) = false := by simp [he]
          have HK : Hid (l.take (k + 1) = m.take (k + 1)) := take_eq_succ l m k hlt hlm HT.out (by rw [hu, hv, he])
          clear he hu hv
          go_wp2_with fail
          go_quiet (fail)
          go_wp2_with fail
          exact ⟨⟨k + 1, by omega, by go_num, HK.out, belN hB _⟩, by simp [intOf]; omega⟩
        · have hq : ((u.toNat : Int) != (v.toNat : Int)) = true := by simp; intro h; exact he (UInt8.toNat_inj.1 (by omega))
          have HF : Hid ((l == m) = false) := by
            show _ = _
            simp only [beq_eq_false_iff_ne, ne_eq]
            rintro rfl
            exact he (hu.symm.trans hv)
          clear he hu hv
          go_wp2_with fail
          go_quiet (fail)
          go_wp2_with fail
          go_ret
          rw [HF.out]
          exact ⟨rfl, belN hB _⟩
      · obtain rfl : k = l.length := by omega
        have HF : Hid ((l == m) = true) := by
          show _ = _
          have h := HT.out
          rw [List.take_length, HL.out, List.take_length] at h
          simp [h]
        go_wp2_with fail
        go_ret
        rw [HF.out]
        exact ⟨rfl, hB⟩
  · have hn : ((l.length : Int) != (m.length : Int)) = true := by simp; omega
    have HF : Hid ((l == m) = false) := by
      show _ = _
      simp only [beq_eq_false_iff_ne, ne_eq]
      rintro rfl
      exact hlen rfl
    go_enter Tryd.func20, Tryd.ntmps20
    go_wp2_with fail
    go_ret
    rw [HF.out]
    exact ⟨rfl, Below.refl _ _⟩

/-- The mark at i. -/
def markU (i : Nat) : UInt8 := UInt8.ofNat ((8000024 + i) * 11400714819323198485 % 18446744073709551616 / 72057594037927936)
theorem mark_any (i : Nat) (w : World) (hi : i < 12) : Calls Tryd.prog 44 #[.int .i64 1, .int .i64 (i : Int)] w fun e w' => e = .returned (.int .i64 ((8000024 + i : Nat) : Int)) ∧ w' = w := by
  have e : (8000024 : Int) + (i : Int) = ((8000024 + i : Nat) : Int) := by omega
  have E := Lib.hid e
  clear e
  go_enter Tryd.func44, Tryd.ntmps44
  go_wp2_with fail
  go_ret
  rw [← E.out]
  exact ⟨rfl, rfl⟩
theorem mark8_any (i : Nat) (w : World) (hi : i < 12) : Calls Tryd.prog 32 #[.int .i64 1, .int .i64 (i : Int)] w fun e w' => e = .returned (.int .u8 ((markU i).toNat : Int)) ∧ w' = w := by
  obtain ⟨n, hn⟩ : ∃ n, 8000024 + i = n := ⟨_, rfl⟩
  have hm := mark_any i w hi
  rw [hn] at hm
  have h0 : 8000024 ≤ n := by omega
  have h1 : n ≤ 8000036 := by omega
  have HM : Hid (markU i = UInt8.ofNat (n * 11400714819323198485 % 18446744073709551616 / 72057594037927936)) := by show _ = _; unfold markU; rw [hn]
  clear hn
  go_enter Tryd.func32, Tryd.ntmps32
  go_wp2_with fail
  refine hm.mono ?_
  rintro e w1 ⟨rfl, rfl⟩
  go_wp2_with fail
  go_ret
  refine ⟨?_, rfl⟩
  rw [HM.out, UInt8.toNat_ofNat']
  show Ending.returned (.int .u8 (IntKind.u64.wrap ((n : Int) * 11400714819323198485) / 72057594037927936 % 256)) = _
  have hw : IntKind.u64.wrap ((n : Int) * 11400714819323198485) = ((n * 11400714819323198485 % 18446744073709551616 : Nat) : Int) := by
    simp only [IntKind.wrap, IntKind.bits, IntKind.signed, Int.natCast_emod, Int.natCast_mul]; rfl
  rw [hw]
  congr 2

def marks (n : Nat) : List UInt8 := (List.range n).map markU
theorem marks_succ (n : Nat) : marks (n + 1) = marks n ++ [markU n] := by unfold marks; rw [List.range_succ, List.map_append]; rfl
theorem marks_length (n : Nat) : (marks n).length = n := by unfold marks; simp
theorem marks_getD (n i : Nat) (h : i < n) : (marks n).getD i 0 = markU i := by
  unfold marks
  simp [List.getD_eq_getElem?_getD, List.getElem?_map, List.getElem?_range h]
def LentRel (l : List UInt8) (w : World) (u3 u4 : Value) (wr : World) : Prop :=
  ∃ (k : Nat) (x : Option Addr) (c : Nat), k ≤ 12 ∧ u4 = .int .i64 (k : Int) ∧ u3 = .slice x (l ++ marks k).length c ∧ OwnsB w.heap.size wr x c (l ++ marks k) ∧ Below w.heap.size w wr
/-- A slice lent: some bytes with marks behind them. -/
def LentOf (l : List UInt8) (w : World) (e : Ending) (w' : World) : Prop := ∃ g c, e = .returned (.slice (some ⟨g, 0, none⟩) l.length c) ∧ OwnsB w.heap.size w' (some ⟨g, 0, none⟩) c (l ++ marks 12) ∧ l.length + 12 ≤ c ∧ Below w.heap.size w w'
set_option maxHeartbeats 1000000 in
theorem lent_any (x : Option Addr) (l : List UInt8) (cx : Nat) (w : World) (hx : Bts w x l) (hn : x = none → cx = 0) (hl : l.length ≤ 1000) :
    Calls Tryd.prog 17 #[.slice x l.length cx] w (LentOf l w) := by
  have hmk := fun W => run_room (l.length + 12) (by omega) W
  have e12 : (l.length : Int) + 12 = ((l.length + 12 : Nat) : Int) := by push_cast; rfl
  simp only [← e12] at hmk
  clear e12
  have hB := Below.refl w.heap.size w
  have L0 := Lib.hid (show [] ++ l = l from rfl)
  have L1 := Lib.hid (show l ++ marks 0 = l by simp [marks])
  go_enter Tryd.func17, Tryd.ntmps17
  go_wp2_with (at_builtin; (refine wpList_app rfl _ _ rfl (l := []) (B := w.heap.size) (OwnsB.room _ _ _ _ (Nat.le_refl _) rfl (by omega)) rfl (m := l) rfl (hx.later (al hB _)) hn (by simp; omega) L0.out (by simp) ?_); intro x1 c1 w1 ho hb _; refine Hid.out ?_)
  clear hmk
  unfold Hid
  replace hB := (al hB _).trans (hb.mono (by have := hB.size; first | omega | (simp <;> omega)))
  have O1 := Lib.hid ho
  clear ho hb hx L0
  go_wp2_with fail
  go_loopw [3, 4] (fun u3 u4 wr => LentRel l w u3 u4 wr) (fun _ u4 _ => 12 - (intOf u4).toNat)
  case atStart => exact ⟨0, x1, c1, by omega, rfl, by rw [L1.out], by rw [L1.out]; exact O1.out, hB⟩
  case round =>
    clear O1 hB L1
    obtain ⟨k, y, c, hk, rfl, rfl, ho, hB⟩ := hrel
    have HO := Lib.hid ho
    clear ho
    by_cases hlt : k < 12
    · have hkb : decide ((k : Int) < 12) = true := by simp; omega
      obtain ⟨lj, hlj⟩ : ∃ m, l ++ marks k = m := ⟨_, rfl⟩
      obtain ⟨lm, hlm⟩ : ∃ m, lj ++ [markU k] = m := ⟨_, rfl⟩
      have hll : lj.length ≤ 2000 := by rw [← hlj]; simp [marks]; omega
      have HLM : Hid (l ++ marks (k + 1) = lm) := by
        show l ++ marks (k + 1) = lm
        rw [marks_succ, ← List.append_assoc, hlj, hlm]
      rw [hlj] at HO ⊢
      clear hlj
      go_wp2_with fail
      refine (mark8_any k _ hlt).mono ?_
      rintro e w9 ⟨rfl, rfl⟩
      go_wp2_with (at_builtin; refine wpList_app rfl _ _ rfl (B := w.heap.size) (l := lj) (y := some ⟨w9.heap.size, 0, none⟩) (m := [markU k]) (HO.out.turn ((Turns.refl (fun _ => False) w9).alloc _) (fun _ _ h => h)) rfl rfl (bts_one w9 (markU k) _ _) (fun h => by cases h) (by simp; omega) hlm (by have := hB.size; simp; omega) ?_; intro x' cap' w3 h1 h2 _; refine Hid.out ?_)
      unfold Hid
      have HN := Lib.hid h1
      have hB4 := (al hB _).trans (h2.mono (Nat.le_refl _))
      clear h1 h2 HO hB hlm
      go_wp2_with fail
      exact ⟨⟨k + 1, x', cap', by omega, by go_num, by rw [HLM.out], by rw [HLM.out]; exact HN.out, hB4⟩, by simp [intOf]; omega⟩
    · obtain rfl : k = 12 := by omega
      have hcap := HO.out.le_cap
      have hlen : (l ++ marks 12).length = l.length + 12 := by rw [List.length_append, marks_length]
      have hc1 : l.length + 12 ≤ c := by omega
      have hc2 : c ≤ 9223372036854775807 := hcap.2
      obtain ⟨g, rfl⟩ := HO.out.some_of (by omega)
      rw [hlen]
      clear hcap hlen
      go_wp2_with fail
      go_ret
      exact ⟨g, c, rfl, HO.out, hc1, hB⟩

def KeptRel (n : Nat) (w : World) (u6 : Value) (wr : World) : Prop := ∃ k : Nat, k ≤ n + 12 ∧ u6 = .int .i64 (k : Int) ∧ Below w.heap.size w wr
set_option maxHeartbeats 2000000 in
theorem kept_any (g c : Nat) (l : List UInt8) (y : Option Addr) (cy : Nat) (w : World) (ho : Bts w (some ⟨g, 0, none⟩) (l ++ marks 12)) (hc : l.length + 12 ≤ c) (_hc2 : c ≤ 9223372036854775807) (hy : Bts w y l) (hl : l.length ≤ 1000) :
    Calls Tryd.prog 23 #[.slice (some ⟨g, 0, none⟩) l.length c, .slice y l.length cy] w fun e w' => e = .returned (.bool true) ∧ Below w.heap.size w w' := by
  have hB := Below.refl w.heap.size w
  go_enter Tryd.func23, Tryd.ntmps23
  go_wp2_with fail
  go_loopw [6] (fun u6 wr => KeptRel l.length w u6 wr) (fun u6 _ => l.length + 12 - (intOf u6).toNat)
  case atStart => exact ⟨0, by omega, rfl, hB⟩
  case round =>
    clear hB
    obtain ⟨k, hk, rfl, hB⟩ := hrel
    obtain ⟨g', o', hg', hcells⟩ := (ho.later hB).resolve_left (by intro e; have := congrArg List.length e; rw [List.length_append, marks_length] at this; simp at this)
    cases hg'
    by_cases hlt : k < l.length + 12
    · have hkb : decide ((k : Int) < (l.length : Int) + 12) = true := by simp; omega
      have hki : (k : Int) < (l.length : Int) + 12 := by omega
      have ck := hcells k (by rw [List.length_append, marks_length]; omega)
      unfold encB at ck
      rw [Nat.zero_add] at ck
      by_cases hkl : k < l.length
      · have hkd : decide ((k : Int) < (l.length : Int)) = true := by simp; omega
        have hkd2 : decide (l.length ≤ k) = false := by simp; omega
        obtain ⟨gy, oy, rfl, hcy⟩ := (hy.later hB).resolve_left (by intro e; subst e; simp at hkl)
        have cyk := hcy k hkl
        unfold encB at cyk
        have he : (l ++ marks 12).getD k 0 = l.getD k 0 := by rw [List.getD_eq_getElem?_getD, List.getElem?_append_left hkl, ← List.getD_eq_getElem?_getD]
        rw [he] at ck
        obtain ⟨u, hu⟩ : ∃ u, l.getD k 0 = u := ⟨_, rfl⟩
        rw [hu] at ck cyk
        clear hcells hcy he hu
        go_wp2_with fail
        go_quiet (fail)
        go_wp2_with fail
        exact ⟨⟨k + 1, by omega, by go_num, belN hB _⟩, by simp [intOf]; omega⟩
      · have hkd : decide ((k : Int) < (l.length : Int)) = false := by simp; omega
        have hkd2 : l.length ≤ k := by omega
        obtain ⟨i, hi⟩ : ∃ i, k - l.length = i := ⟨_, rfl⟩
        have hi12 : i < 12 := by omega
        have he : (l ++ marks 12).getD k 0 = markU i := by
          rw [List.getD_eq_getElem?_getD, List.getElem?_append_right (by omega), hi, ← List.getD_eq_getElem?_getD, marks_getD _ _ hi12]
        rw [he] at ck
        have hsub : IntKind.i64.wrap ((k : Int) - (l.length : Int)) = (i : Int) := by rw [wrap64_of _ (by omega)]; omega
        obtain ⟨u, hu⟩ : ∃ u, markU i = u := ⟨_, rfl⟩
        have hm8 := fun W => mark8_any i W hi12
        rw [hu] at ck hm8
        clear hcells he hu hi
        go_wp2_with fail
        go_quiet ((go_at_call 32; exact Calls.quiet_of_same (hm8 _)))
        go_wp2_with fail
        exact ⟨⟨k + 1, by omega, by go_num, belN hB _⟩, by simp [intOf]; omega⟩
    · obtain rfl : k = l.length + 12 := by omega
      have hkb : decide (((l.length + 12 : Nat) : Int) < (l.length : Int) + 12) = false := by simp
      go_wp2_with fail
      go_ret
      exact ⟨rfl, hB⟩

end Go.Proofs.YtjnjjnkanbnliaaDoor
