/- The reference of the block layer: Valid, equal, Erased, Encode. -/
import Derived.Test.YtgibfagnfhgelaaBlkF
import Derived.Test.YtgibfagnfhgelaaFill
import Derived.Test.YtgibfagnfhgelaaRef4P
namespace Go.Proofs.Ytgibfagnfhgelaa
open Go.RowKit

set_option maxHeartbeats 1000000 in
theorem refValid_any (x : Option Addr) (rs : List Rw) (c : Nat) (w : World) (hs : Rws w x rs) (hn : rs.length ≤ 1000) : Calls Try.prog 18 #[.slice x rs.length c] w fun e w' => e = .returned (.bool (vldS (rs.map (·.l)))) ∧ w' = w := by
  rw [vldS_eq]
  go_enter Try.func18, Try.ntmps18
  go_wp2_with fail
  go_loop [3] (fun u3 => ∃ j : Nat, j ≤ rs.length ∧ u3 = .int .i64 (j : Int) ∧ ∀ i, i < j → badL (rs.getD i rw0).l.length = false) (fun u3 => rs.length - (intOf u3).toNat)
  case atStart => exact ⟨0, by omega, rfl, fun i hi => by omega⟩
  case round =>
    obtain ⟨j, hj, rfl, hgood⟩ := hrel
    by_cases hlt : j < rs.length
    · have d1 : decide ((j : Int) < (rs.length : Int)) = true := by simp; omega
      obtain ⟨b0, o0, rfl, hcj, -⟩ := hs.at j hlt
      obtain ⟨rj, hrj⟩ : ∃ r, rs.getD j rw0 = r := ⟨_, rfl⟩
      have hcj' : w.cell? ⟨b0, o0 + j, none⟩ = some (.slice rj.x rj.l.length rj.c) := by rw [hcj, hrj]; rfl
      have HRJ := Lib.hid hrj
      have HG := Lib.hid hgood
      clear hcj hrj hgood
      by_cases hq : rj.l.length = 54
      · have q1 : ((rj.l.length : Int) != 54) = false := by rw [bne_eq_false_iff_eq]; omega
        have HQ : Hid (badL rj.l.length = false) := by show _ = _; rw [hq]; rfl
        clear hq
        go_wp2_with fail
        exact ⟨⟨j + 1, by omega, by go_num, fun i hi => by
          by_cases h : i = j
          · subst h; rw [HRJ.out]; exact HQ.out
          · exact HG.out i (by omega)⟩, by simp [intOf]; omega⟩
      · have q1 : ((rj.l.length : Int) != 54) = true := by rw [bne_iff_ne]; omega
        have hb : badL (rs.getD j rw0).l.length = true := by rw [HRJ.out]; show (rj.l.length != 54) = true; simpa using hq
        have HQ := Lib.hid (any_of_bad (fun r : Rw => badL r.l.length) rs j rw0 hlt hb)
        clear hq hb
        go_wp2_with fail
        go_ret
        exact ⟨by rw [HQ.out]; simp, rfl⟩
    · obtain rfl : j = rs.length := by omega
      have HQ := Lib.hid (any_none (fun r : Rw => badL r.l.length) rs rw0 hgood)
      clear hgood
      by_cases h1 : 1 ≤ rs.length
      · have d2 : decide ((1 : Int) ≤ (rs.length : Int)) = true := decide_eq_true (by omega)
        have d3 : decide (1 ≤ rs.length) = true := decide_eq_true h1
        go_wp2_with fail
        go_ret
        exact ⟨by rw [HQ.out]; simp  <;> omega, rfl⟩
      · have d2 : decide ((1 : Int) ≤ (rs.length : Int)) = false := decide_eq_false (by omega)
        have d3 : decide (1 ≤ rs.length) = false := decide_eq_false h1
        go_wp2_with fail
        go_ret
        exact ⟨by first | rfl | (rw [d3]; rfl), rfl⟩

theorem Bts.ix {W : World} {x : Option Addr} {l : List UInt8} (h : Bts W x l) (i : Nat) (hi : i < l.length) : ∃ b o, x = some ⟨b, o, none⟩ ∧ W.cell? ⟨b, o + i, none⟩ = some (.int .u8 ((l.getD i 0).toNat : Int)) := by
  rcases h with h | ⟨b, o, hx, hc⟩
  · subst h; simp at hi
  · exact ⟨b, o, hx, hc i hi⟩
theorem eq_of_getD8 (l m : List UInt8) (hl : l.length = m.length) (h : ∀ i, i < l.length → l.getD i 0 = m.getD i 0) : (l == m) = true := by
  rw [beq_iff_eq]
  apply List.ext_getElem hl
  intro i h1 h2
  have := h i h1
  rwa [List.getD_eq_getElem?_getD, List.getElem?_eq_getElem h1, List.getD_eq_getElem?_getD, List.getElem?_eq_getElem h2] at this
set_option maxHeartbeats 1000000 in
theorem refEqual_any (x y : Option Addr) (l m : List UInt8) (c d : Nat) (w : World) (hx : Bts w x l) (hy : Bts w y m) (hl0 : l.length ≤ 1000000) : Calls Try.prog 31 #[.slice x l.length c, .slice y m.length d] w fun e w' => e = .returned (.bool (l == m)) ∧ Below w.heap.size w w' := by
  by_cases hl : l.length = m.length
  · have q0 : ((l.length : Int) != (m.length : Int)) = false := by rw [bne_eq_false_iff_eq]; omega
    have HL := Lib.hid hl
    have hB := Below.refl w.heap.size w
    clear hl
    go_enter Try.func31, Try.ntmps31
    go_wp2_with fail
    go_loopw [5] (fun u5 wr => ∃ j : Nat, j ≤ l.length ∧ u5 = .int .i64 (j : Int) ∧ (∀ i, i < j → l.getD i 0 = m.getD i 0) ∧ Below w.heap.size w wr) (fun u5 _ => l.length - (intOf u5).toNat)
    case atStart => exact ⟨0, by omega, rfl, fun i hi => by omega, hB⟩
    case round =>
      clear hB
      obtain ⟨j, hj, rfl, hgood, hB⟩ := hrel
      by_cases hlt : j < l.length
      · have d1 : decide ((j : Int) < (l.length : Int)) = true := by simp; omega
        obtain ⟨a0, p0, rfl, ca⟩ := (hx.later hB).ix j hlt
        obtain ⟨a1, p1, rfl, cb⟩ := (hy.later hB).ix j (by have := HL.out; omega)
        obtain ⟨u, hu⟩ : ∃ u, l.getD j 0 = u := ⟨_, rfl⟩
        obtain ⟨v, hv⟩ : ∃ u, m.getD j 0 = u := ⟨_, rfl⟩
        rw [hu] at ca
        rw [hv] at cb
        have HU := Lib.hid hu
        have HV := Lib.hid hv
        have HG := Lib.hid hgood
        have jB : (j : Int) < (l.length : Int) := by omega
        have jC : (j : Int) < (m.length : Int) := by have := HL.out; omega
        have jC2 : j < m.length := by have := HL.out; omega
        clear hu hv hgood
        obtain ⟨q, hq⟩ : ∃ q, ((u.toNat : Int) != (v.toNat : Int)) = q := ⟨_, rfl⟩
        go_wp2_with fail
        refine wp_region_sched (fun W => W.cell? ⟨a0, p0 + j, none⟩ = some (.int .u8 (u.toNat : Int)) ∧ W.cell? ⟨a1, p1 + j, none⟩ = some (.int .u8 (v.toNat : Int)) ∧ Below w.heap.size w W) (.done [0, 1, 2, 3, 4, 5, 6, 7, 8]) (by kernel_rfl) (by kernel_rfl) (fun _ _ _ _ _ h => h) ⟨ca, cb, hB.drew⟩ ?_
        clear ca cb hB
        rintro W ⟨ca, cb, hB⟩
        rw [wpSched]
        simp only [pick, List.map_cons, List.map_nil, Array.getD_eq_getD_getElem?, List.getElem?_toArray, List.getElem?_cons_succ, List.getElem?_cons_zero, Option.getD_some]
        have kca := plusW_cell ca
        have kcb := plusW_cell cb
        repeat (first | go_big_quiet_step (fail) | quiet_step (fail))
        refine wpQuiet_nil ?_
        clear kca kcb
        have HQ := Lib.hid hq
        cases q
        · go_wp2_with fail
          have h2 : u = v := by have := HQ.out; rw [bne_eq_false_iff_eq] at this; exact UInt8.toNat_inj.1 (by omega)
          exact ⟨⟨j + 1, by omega, by go_num, fun i hi => by
            by_cases h : i = j
            · subst h; rw [HU.out, HV.out]; exact h2
            · exact HG.out i (by omega), hB⟩, by simp [intOf]; omega⟩
        · go_wp2_with fail
          go_ret
          exact ⟨by
            have : (l == m) = false := by
              rw [beq_eq_false_iff_ne]
              intro h
              have h1 := HU.out
              rw [h, HV.out] at h1
              have := HQ.out
              rw [h1] at this; simp at this
            rw [this]; rfl, hB⟩
      · obtain rfl : j = l.length := by omega
        have HF := Lib.hid (eq_of_getD8 l m HL.out hgood)
        clear hgood
        go_wp2_with fail
        go_ret
        exact ⟨by rw [HF.out]; rfl, hB⟩
  · have q0 : ((l.length : Int) != (m.length : Int)) = true := by rw [bne_iff_ne]; omega
    have HF : Hid ((l == m) = false) := by
      show _ = _
      rw [beq_eq_false_iff_ne]
      intro h
      exact hl (by rw [h])
    clear hl
    go_enter Try.func31, Try.ntmps31
    go_wp2_with fail
    go_ret
    exact ⟨by rw [HF.out]; rfl, Below.refl _ _⟩

theorem rep_snoc (n : Nat) (v : UInt8) : List.replicate n v ++ [v] = List.replicate (n + 1) v := by rw [List.replicate_succ']
set_option maxHeartbeats 1000000 in
theorem refErased_any (w : World) : Calls Try.prog 19 #[] w fun e w' => ∃ x c, e = .returned (.slice x 54 c) ∧ OwnsB w.heap.size w' x c erasedL ∧ Below w.heap.size w w' := by
  have hB := Below.refl w.heap.size w
  go_enter Try.func19, Try.ntmps19
  go_wp2_with fail
  go_loopw [1, 2] (fun u1 u2 wr => ∃ (j : Nat) (x : Option Addr) (cap : Nat), j ≤ 54 ∧ u2 = .int .i64 (j : Int) ∧ u1 = .slice x (List.replicate j (255 : UInt8)).length cap ∧ OwnsB w.heap.size wr x cap (List.replicate j 255) ∧ Below w.heap.size w wr) (fun _ u2 _ => 54 - (intOf u2).toNat)
  case atStart => exact ⟨0, none, 0, by omega, rfl, rfl, OwnsB.nil _ _, hB⟩
  case round =>
    clear hB
    obtain ⟨j, x, cap, hj, rfl, rfl, hown, hB⟩ := hrel
    have HO := Lib.hid hown
    clear hown
    by_cases hlt : j < 54
    · obtain ⟨lj, hlj⟩ : ∃ l, List.replicate j (255 : UInt8) = l := ⟨_, rfl⟩
      obtain ⟨lm, hlm⟩ : ∃ l, lj ++ [(255 : UInt8)] = l := ⟨_, rfl⟩
      have hll : lj.length ≤ 54 := by rw [← hlj]; simp; omega
      have HLM : Hid (List.replicate (j + 1) (255 : UInt8) = lm) := by show _ = _; rw [← rep_snoc, hlj, hlm]
      rw [hlj] at HO ⊢
      clear hlj
      go_wp2_with (at_builtin; refine wpList_app rfl _ _ rfl (B := w.heap.size) (l := lj) (y := some ⟨wr.heap.size, 0, none⟩) (m := [(255 : UInt8)]) (HO.out.turn ((Turns.refl (fun _ => False) wr).alloc _) (fun _ _ h => h)) rfl rfl (bts_one wr 255 _ _) (fun h => by cases h) (by simp; omega) hlm (by have := hB.size; simp; omega) ?_; intro x' cap' w3 h1 h2 _; refine Hid.out ?_)
      unfold Hid
      have HN := Lib.hid h1
      have hB4 := (al hB _).trans (h2.mono (Nat.le_refl _))
      clear h1 h2 HO hB hlm
      go_wp2_with fail
      exact ⟨⟨j + 1, x', cap', by omega, by go_num, by rw [HLM.out], by rw [HLM.out]; exact HN.out, hB4⟩, by simp [intOf]; omega⟩
    · obtain rfl : j = 54 := by omega
      go_wp2_with fail
      go_ret
      exact ⟨_, _, rfl, HO.out, hB⟩

def slLen : Value → Nat
  | .slice _ n _ => n
  | _ => 0
theorem enc_cons (d : List UInt8) : [UInt8.ofNat d.length] ++ d = UInt8.ofNat d.length :: d := rfl
set_option maxHeartbeats 1000000 in
theorem refEncode_yes (x : Option Addr) (d : List UInt8) (c : Nat) (w : World) (hx : Bts w x d) (hn : x = none → c = 0) (hd : d.length ≤ 48) : Calls Try.prog 20 #[.slice x d.length c] w fun e w' => ∃ y cap, e = .returned (.slice y 54 cap) ∧ OwnsB w.heap.size w' y cap (encL d) ∧ Below w.heap.size w w' := by
  have hB := Below.refl w.heap.size w
  have hw8 : IntKind.u8.wrap (d.length : Int) = ((UInt8.ofNat d.length).toNat : Int) := by rw [wrap8u, UInt8.toNat_ofNat']; omega
  obtain ⟨v, hv⟩ : ∃ v, UInt8.ofNat d.length = v := ⟨_, rfl⟩
  obtain ⟨l1, hl1⟩ : ∃ l, [v] ++ d = l := ⟨_, rfl⟩
  have n1 : l1.length = d.length + 1 := by rw [← hl1]; simp
  have HB49 : Hid (l1 ++ List.replicate (48 - d.length) 0 = base49 d) := by show _ = _; rw [← hl1, ← hv]; rfl
  rw [hv] at hw8
  have HD := Lib.hid hd
  have H1 := Lib.hid n1
  have h100 : d.length ≤ 9223372036854775807 := by omega
  clear hv n1 hd
  go_enter Try.func20, Try.ntmps20
  go_wp2_with (at_builtin; (refine wpList_app rfl _ _ rfl (l := [v]) (B := w.heap.size) (OwnsB.whole _ w.heap.size w [v] _ rfl (Nat.le_refl _) rfl (by simp)) rfl (m := d) rfl (hx.later (al hB _)) hn (by have := HD.out; simp; omega) hl1 (by simp) ?_); intro x1 c1 w1 ho hb _; refine Hid.out ?_)
  unfold Hid
  replace hB := (al hB _).trans hb
  have HO1 := Lib.hid ho
  clear ho hb hx hl1
  go_wp2_with fail
  go_loopw [3] (fun u3 wr => ∃ (k : Nat) (x : Option Addr) (cap : Nat), k ≤ 48 - d.length ∧ u3 = .slice x (l1 ++ List.replicate k 0).length cap ∧ OwnsB w.heap.size wr x cap (l1 ++ List.replicate k 0) ∧ Below w.heap.size w wr) (fun u3 _ => 49 - slLen u3)
  case atStart => exact ⟨0, x1, c1, by omega, by simp, by simpa using HO1.out, hB⟩
  case round =>
    clear hB HO1
    obtain ⟨k, x2, cap, hk, rfl, hown, hB⟩ := hrel
    have HO := Lib.hid hown
    clear hown
    by_cases hlt : k < 48 - d.length
    · obtain ⟨lj, hlj⟩ : ∃ l, l1 ++ List.replicate k (0 : UInt8) = l := ⟨_, rfl⟩
      obtain ⟨lm, hlm⟩ : ∃ l, lj ++ [(0 : UInt8)] = l := ⟨_, rfl⟩
      have hll : lj.length = d.length + 1 + k := by rw [← hlj, List.length_append, H1.out]; simp
      have HLM : Hid (l1 ++ List.replicate (k + 1) (0 : UInt8) = lm) := by show _ = _; rw [← rep_snoc, ← List.append_assoc, hlj, hlm]
      have d1 : decide ((lj.length : Int) < 49) = true := by simp; omega
      have HLL := Lib.hid hll
      have HM2 : Hid (lm.length = lj.length + 1) := by show _ = _; rw [← hlm]; simp
      rw [hlj] at HO ⊢
      clear hlj hll
      go_wp2_with (at_builtin; refine wpList_app rfl _ _ rfl (B := w.heap.size) (l := lj) (y := some ⟨wr.heap.size, 0, none⟩) (m := [(0 : UInt8)]) (HO.out.turn ((Turns.refl (fun _ => False) wr).alloc _) (fun _ _ h => h)) rfl rfl (bts_one wr 0 _ _) (fun h => by cases h) (by have := HLL.out; simp; omega) hlm (by have := hB.size; simp; omega) ?_; intro x' cap' w3 h1 h2 _; refine Hid.out ?_)
      unfold Hid
      have HN := Lib.hid h1
      have hB4 := (al hB _).trans (h2.mono (Nat.le_refl _))
      clear h1 h2 HO hB hlm
      go_wp2_with fail
      exact ⟨⟨k + 1, x', cap', by omega, by rw [HLM.out], by rw [HLM.out]; exact HN.out, hB4⟩, by have := HLL.out; have := HM2.out; simp [slLen]; omega⟩
    · obtain rfl : k = 48 - d.length := by omega
      rw [HB49.out] at HO ⊢
      obtain ⟨l, hl⟩ : ∃ l, base49 d = l := ⟨_, rfl⟩
      have h49 : l.length = 49 := by rw [← hl]; exact base49_len d HD.out
      have HE : Hid (encL d = l ++ Crc.trailer (Crc.sum l) ++ [0]) := by show _ = _; rw [← hl]; rfl
      obtain ⟨g, rfl⟩ := HO.out.some_of (by rw [hl]; omega)
      rw [hl] at HO ⊢
      rw [h49]
      have ca := refapp_any (some ⟨g, 0, none⟩) l cap wr HO.out.bts (fun h => by cases h) (by omega)
      rw [h49] at ca
      obtain ⟨m, hm⟩ : ∃ m, l ++ Crc.trailer (Crc.sum l) = m := ⟨_, rfl⟩
      have hm53 : m.length = 53 := by rw [← hm, List.length_append, h49]; simp [Crc.trailer]
      unfold AppOf at ca
      rw [hm, hm53] at ca
      rw [hm] at HE
      have HM53 := Lib.hid hm53
      clear hl hm h49 hm53
      go_wp2_with fail
      refine ca.mono ?_
      rintro e w5 ⟨x5, c5, rfl, ho5, hb5⟩
      have hB5 := thru hB hb5
      have hsz := hB.size
      have HO5 := Lib.hid (ho5.weaken (B' := w.heap.size) hsz)
      clear ho5 hb5 hB HO ca
      obtain ⟨lm, hlm⟩ : ∃ l, m ++ [(0 : UInt8)] = l := ⟨_, rfl⟩
      have hlm54 : lm.length = 54 := by rw [← hlm, List.length_append, HM53.out]; rfl
      go_wp2_with (at_builtin; refine wpList_app rfl _ _ rfl (B := w.heap.size) (l := m) (y := some ⟨w5.heap.size, 0, none⟩) (m := [(0 : UInt8)]) (HO5.out.turn ((Turns.refl (fun _ => False) w5).alloc _) (fun _ _ h => h)) (by rw [HM53.out]; rfl) rfl (bts_one w5 0 _ _) (fun h => by cases h) (by have := HM53.out; simp; omega) hlm (by have := hB5.size; simp; omega) ?_; intro x' cap' w6 h1 h2 _; refine Hid.out ?_)
      unfold Hid
      have HN := Lib.hid h1
      have hB6 := (al hB5 _).trans (h2.mono (Nat.le_refl _))
      rw [hlm] at HE
      clear h1 h2 HO5 hB5 hlm hlm54
      go_wp2_with fail
      go_ret
      exact ⟨_, _, rfl, by rw [HE.out]; exact HN.out, hB6⟩

end Go.Proofs.Ytgibfagnfhgelaa
