/- WALKS of the reference of the sign layer: Encode. -/
import Derived.Test.YtjpicnfkmfjnoaaSgnV
namespace Go.Proofs.Ytjpicnfkmfjnoaa
open Go.RowKit

theorem refEncode_bad (key : Int) (f : Nat → D64) (x : Option Addr) (n c : Nat) (w : World) (hn : vldS (n : Int) key = false) : Calls Try.prog 29 #[aggN 20 (sigV key f x n c)] w fun e w' => e = .returned (.tuple #[.slice none 0 0, .int .i64 2]) ∧ Below w.heap.size w w' := by
  have hv := refValid_any (n : Int) key
  rw [hn] at hv
  go_enter Try.func29, Try.ntmps29
  go_wp2_with (refine wpList_boxN rfl _ _ rfl rfl ?_; intro W g hB hz; refine Hid.out ?_)
  unfold Hid
  try simp only [Act.put, List.setIfInBounds_toArray, List.set_cons_zero, List.set_cons_succ]
  have c0 : W.cell? ⟨w.heap.size, 0, none⟩ = some (.int .i64 key) := (g.at 0 (by omega)).1
  have c19 : W.cell? ⟨w.heap.size, 19, none⟩ = some (.slice x n c) := (g.at 19 (by omega)).1
  clear g hz
  go_wp2_with fail
  refine (hv _).mono ?_
  rintro e w1 ⟨rfl, hw⟩
  obtain rfl : W = w1 := hw.symm
  clear hv hw
  go_wp2_with fail
  exact bodyPost_ret (v := .tuple #[.slice none 0 0, .int .i64 2]) (by simp [results, Try.f29, go_sem]) rfl ⟨rfl, hB⟩
set_option maxHeartbeats 1000000 in
theorem refEncode_ok (key : Nat) (f : Nat → D64) (p : List D64) (x : Option Addr) (c : Nat) (w : World) (hp : Wts w x p) (h6 : p.length ≤ 6) (hk : key < 2 ^ p.length) :
    Calls Try.prog 29 #[aggN 20 (sigV (key : Int) f x p.length c)] w fun e w' => ∃ y cy, e = .returned (.tuple #[.slice y (Sgn.enc key f p).length cy, .int .i64 0]) ∧ OwnsB w.heap.size w' y cy (Sgn.enc key f p) ∧ Below w.heap.size w w' := by
  have hki : (key : Int) < 2 ^ p.length := by
    have : ((key : Nat) : Int) < ((2 ^ p.length : Nat) : Int) := by exact_mod_cast hk
    simpa using this
  have hvv : vldS (p.length : Int) (key : Int) = true := by
    unfold vldS
    refine decide_eq_true ⟨by omega, by omega, by omega, ?_⟩
    rw [Int.toNat_natCast]
    exact hki
  have HV := refValid_any (p.length : Int) (key : Int)
  rw [hvv] at HV
  have hwk := wrap_u8z (key : Int)
  have hwn := wrap_u8z (p.length : Int)
  have HL : Hid ([u8z (key : Int), u8z (p.length : Int)] ++ Sgn.ends f 18 ++ Sgn.ends (fun j => p.getD j 0#64) p.length = Sgn.enc key f p) := by show _ = _; rw [u8z_nat, u8z_nat]; rfl
  obtain ⟨n, hn⟩ : ∃ n, p.length = n := ⟨_, rfl⟩
  have HN := Lib.hid hn
  rw [hn] at h6 HV hwn HL ⊢
  obtain ⟨ka, hka⟩ : ∃ a, u8z (key : Int) = a := ⟨_, rfl⟩
  obtain ⟨na, hna⟩ : ∃ a, u8z (n : Int) = a := ⟨_, rfl⟩
  rw [hka] at hwk HL
  rw [hna] at hwn HL
  clear hk hki hn hka hna hvv
  go_enter Try.func29, Try.ntmps29
  go_wp2_with (refine wpList_boxN rfl _ _ rfl rfl ?_; intro W g hB hz; refine Hid.out ?_)
  unfold Hid
  try simp only [Act.put, List.setIfInBounds_toArray, List.set_cons_zero, List.set_cons_succ]
  have HZ := Lib.hid hz
  obtain ⟨a, ha⟩ : ∃ a, w.heap.size = a := ⟨_, rfl⟩
  have HA := Lib.hid ha
  rw [ha] at g ⊢
  clear hz ha
  have c0 : W.cell? ⟨a, 0, none⟩ = some (.int .i64 (key : Int)) := (g.at 0 (by omega)).1
  have c19 : W.cell? ⟨a, 19, none⟩ = some (.slice x n c) := (g.at 19 (by omega)).1
  have gc := g.chain
  have hp1 := hp.later hB
  clear g hp
  go_wp2_with fail
  refine (HV _).mono ?_
  rintro e w1 ⟨rfl, hw⟩
  obtain rfl : W = w1 := hw.symm
  clear HV hw
  go_wp2_with fail
  clear c0
  go_loopw [4, 5] (fun u4 u5 wr => EnRel [ka, na] f 18 W u4 u5 wr) (fun _ u5 _ => 18 - (intOf u5).toNat)
  case atStart =>
    refine ⟨0, some ⟨W.heap.size, 0, none⟩, 2, by omega, rfl, rfl, ?_, al (Below.refl _ _) _⟩
    exact OwnsB.whole W.heap.size W.heap.size W [ka, na] _ rfl (Nat.le_refl _) rfl (by simp)
  case round =>
    obtain ⟨i, y, cy, hi, rfl, rfl, hown, hBr⟩ := hrel
    by_cases hlt : i < 18
    · have hki : decide ((i : Int) < 18) = true := by simp; omega
      have cch : wr.cell? ⟨a, 1 + i, none⟩ = some (.int .u64 (num (f i))) := later hBr (gc i hlt).1
      obtain ⟨v, hvf⟩ : ∃ v, f i = v := ⟨_, rfl⟩
      rw [hvf] at cch
      obtain ⟨lx, hlx⟩ : ∃ l, Dig.bytes v = l := ⟨_, rfl⟩
      have nx : lx.length = 8 := by rw [← hlx]; exact Dig.bytes_length _
      have cx := refBytes_any v
      rw [hlx] at cx
      have hle := Sgn.ends_length f i
      have hE : [ka, na] ++ Sgn.ends f (i + 1) = ([ka, na] ++ Sgn.ends f i) ++ lx := by rw [← hlx, ← hvf, List.append_assoc]; rfl
      obtain ⟨l, hl⟩ : ∃ l, [ka, na] ++ Sgn.ends f i = l := ⟨_, rfl⟩
      have hll : l.length ≤ 200 := by rw [← hl]; simp; omega
      rw [hl] at hown hE ⊢
      obtain ⟨lm, hlm⟩ : ∃ lm, l ++ lx = lm := ⟨_, rfl⟩
      rw [hlm] at hE
      have HM := Lib.hid hE
      have HE := Lib.hid hlm
      have HO := Lib.hid hown
      have HX := Lib.hid nx
      have HLL := Lib.hid hll
      clear hlx nx hle hE hlm hl hown hll hvf c19
      go_wp2_with fail
      refine (cx _).mono ?_
      rintro e w2 ⟨b3, c3, rfl, y3, hb3⟩
      have HO3 := Lib.hid (HO.out.later hb3)
      have Y3 := Lib.hid y3
      have hB2 := thru hBr hb3
      clear cx HO hBr hb3 y3 cch
      go_wp2_with (at_builtin; refine wpList_app rfl _ _ rfl (B := W.heap.size) (l := l) HO3.out rfl (m := lx) rfl Y3.out.bts Y3.out.none_cap (by have := HX.out; have := HLL.out; omega) HE.out hB2.size ?_; intro x' cap' w3 h3 h4 h5; refine Hid.out ?_)
      unfold Hid
      have hB3 := hB2.trans h4
      have H3 := Lib.hid h3
      clear hB2 h4 h5 h3 HO3 Y3
      go_wp2_with fail
      refine ⟨⟨i + 1, x', cap', by omega, by rw [HM.out], by go_num, by rw [HM.out]; exact H3.out, hB3⟩, by simp [intOf]; omega⟩
    · obtain rfl : i = 18 := by omega
      rw [show ((18 : Nat) : Int) = 18 from rfl]
      obtain ⟨l0, hl0⟩ : ∃ l, [ka, na] ++ Sgn.ends f 18 = l := ⟨_, rfl⟩
      rw [hl0] at hown HL ⊢
      have n0 : l0.length = 146 := by rw [← hl0]; simp [Sgn.ends_length]
      have HN0 := Lib.hid n0
      have HO := Lib.hid hown
      clear hl0 hown n0
      go_wp2_with fail
      go_loopw [4, 6] (fun u4 u6 wr => EnRel l0 (fun j => p.getD j 0#64) n W u4 u6 wr) (fun _ u6 _ => n - (intOf u6).toNat)
      case atStart => exact ⟨0, y, cy, by omega, by rw [show l0 ++ Sgn.ends (fun j => p.getD j 0#64) 0 = l0 from List.append_nil _], rfl, by rw [show l0 ++ Sgn.ends (fun j => p.getD j 0#64) 0 = l0 from List.append_nil _]; exact HO.out, hBr⟩
      case round =>
        clear HO
        obtain ⟨i, y, cy, hi, rfl, rfl, hown, hBs⟩ := hrel
        have d19 := later hBs c19
        by_cases hlt : i < n
        · have hki : decide ((i : Int) < (n : Int)) = true := by simp; omega
          obtain ⟨b, o, rfl, hci⟩ := hp1.cell i (by have := HN.out; omega)
          have hci2 := later hBs hci
          obtain ⟨v, hv⟩ : ∃ v, p.getD i 0#64 = v := ⟨_, rfl⟩
          obtain ⟨lx, hlx⟩ : ∃ l, Dig.bytes v = l := ⟨_, rfl⟩
          have nx : lx.length = 8 := by rw [← hlx]; exact Dig.bytes_length _
          have cx := refBytes_any v
          rw [hlx] at cx
          have hle := Sgn.ends_length (fun j => p.getD j 0#64) i
          have hE : l0 ++ Sgn.ends (fun j => p.getD j 0#64) (i + 1) = (l0 ++ Sgn.ends (fun j => p.getD j 0#64) i) ++ lx := by rw [← hlx, ← hv, List.append_assoc]; rfl
          obtain ⟨l, hl⟩ : ∃ l, l0 ++ Sgn.ends (fun j => p.getD j 0#64) i = l := ⟨_, rfl⟩
          have hll : l.length ≤ 300 := by rw [← hl, List.length_append, HN0.out]; omega
          rw [hl] at hown hE ⊢
          rw [hv] at hci hci2
          obtain ⟨lm, hlm⟩ : ∃ lm, l ++ lx = lm := ⟨_, rfl⟩
          rw [hlm] at hE
          have HM := Lib.hid hE
          have HE := Lib.hid hlm
          have HO := Lib.hid hown
          have HX := Lib.hid nx
          have HLL := Lib.hid hll
          clear hlx nx hle hE hlm hl hown hll hv hci hp1 c19
          go_wp2_with fail
          refine (cx _).mono ?_
          rintro e w2 ⟨b3, c3, rfl, y3, hb3⟩
          have HO3 := Lib.hid (HO.out.later hb3)
          have Y3 := Lib.hid y3
          have hB2 := thru hBs hb3
          clear cx hci2 HO hBs hb3 y3 d19
          go_wp2_with (at_builtin; refine wpList_app rfl _ _ rfl (B := W.heap.size) (l := l) HO3.out rfl (m := lx) rfl Y3.out.bts Y3.out.none_cap (by have := HX.out; have := HLL.out; omega) HE.out hB2.size ?_; intro x' cap' w3 h3 h4 h5; refine Hid.out ?_)
          unfold Hid
          have hB3 := hB2.trans h4
          have H3 := Lib.hid h3
          clear hB2 h4 h5 h3 HO3 Y3
          go_wp2_with fail
          refine ⟨⟨i + 1, x', cap', by omega, by rw [HM.out], by go_num, by rw [HM.out]; exact H3.out, hB3⟩, by simp [intOf]; omega⟩
        · obtain rfl : i = n := by omega
          have hnn : decide (i < i) = false := decide_eq_false hlt
          have HH := Lib.hid hown
          clear hown hp1 c19
          go_wp2_with fail
          refine bodyPost_ret (v := .tuple #[.slice y (l0 ++ Sgn.ends (fun j => p.getD j 0#64) i).length cy, .int .i64 0]) (by simp [results, Try.f29, go_sem]) rfl ⟨y, cy, ?_, ?_, ?_⟩
          · rw [HL.out]
          · rw [← HL.out]; exact HH.out.weaken hB.size
          · exact thru hB hBs

end Go.Proofs.Ytjpicnfkmfjnoaa
