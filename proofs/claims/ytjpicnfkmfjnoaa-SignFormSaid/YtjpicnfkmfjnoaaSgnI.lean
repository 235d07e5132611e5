/- WALKS of the sign layer: Encode. -/
import Derived.Test.YtjpicnfkmfjnoaaSgnH
import Derived.Test.YtjpicnfkmfjnoaaAggN
import Derived.Test.YtjpicnfkmfjnoaaPureDec
namespace Go.Proofs.Ytjpicnfkmfjnoaa
open Go.RowKit

theorem Blk.chain {W : World} {b : Nat} {key : Int} {f : Nat → D64} {x : Option Addr} {n c : Nat} (g : Blk W b 0 20 (sigV key f x n c)) : Blk W b 1 18 (wrdV f) := by
  have h := (g.sub 1 18 (by omega)).congr (u := wrdV f) fun j hj => by
    unfold sigV wrdV
    rw [if_neg (by omega), if_pos (by omega), Nat.add_sub_cancel_left]
  rwa [Nat.zero_add] at h
theorem Wts.cell {W : World} {x : Option Addr} {l : List D64} (h : Wts W x l) (i : Nat) (hi : i < l.length) : ∃ b o, x = some ⟨b, o, none⟩ ∧ W.cell? ⟨b, o + i, none⟩ = some (.int .u64 (num (l.getD i 0#64))) := by
  rcases h with h | ⟨b, o, hx, hc⟩
  · subst h; simp at hi
  · exact ⟨b, o, hx, hc i hi⟩
def EnRel (l0 : List UInt8) (e : Nat → D64) (m : Nat) (W : World) (u5 ui : Value) (wr : World) : Prop :=
  ∃ i y cy, i ≤ m ∧ u5 = .slice y (l0 ++ Sgn.ends e i).length cy ∧ ui = .int .i64 (i : Int) ∧ OwnsB W.heap.size wr y cy (l0 ++ Sgn.ends e i) ∧ Below W.heap.size W wr

theorem encode_bad (key : Int) (f : Nat → D64) (x : Option Addr) (n c : Nat) (w : World) (hn : vldS (n : Int) key = false) : Calls Try.prog 28 #[aggN 20 (sigV key f x n c)] w fun e w' => e = .returned (.tuple #[.slice none 0 0, .int .i64 2]) ∧ Below w.heap.size w w' := by
  go_enter Try.func28, Try.ntmps28
  go_wp2_with (refine wpList_boxN rfl _ _ rfl rfl ?_; intro W g hB hz; refine Hid.out ?_)
  unfold Hid
  have HZ := Lib.hid hz
  clear hz
  have c0 : W.cell? ⟨w.heap.size, 0, none⟩ = some (.int .i64 key) := (g.at 0 (by omega)).1
  have c19 : W.cell? ⟨w.heap.size, 19, none⟩ = some (.slice x n c) := (g.at 19 (by omega)).1
  clear g
  go_wp2_with (go_at_call 43; refine (valid_no (n : Int) key hn _).mono ?_; rintro e w1 ⟨rfl, hw⟩; obtain rfl : W = w1 := hw.symm)
  exact bodyPost_ret (v := .tuple #[.slice none 0 0, .int .i64 2]) (by simp [results, Try.f28, go_sem]) rfl ⟨rfl, hB⟩

set_option maxHeartbeats 1000000 in
theorem encode_ok (key : Nat) (f : Nat → D64) (p : List D64) (x : Option Addr) (c : Nat) (w : World) (hp : Wts w x p) (h6 : p.length ≤ 6) (hk : key < 2 ^ p.length) :
    Calls Try.prog 28 #[aggN 20 (sigV (key : Int) f x p.length c)] w fun e w' => ∃ y cy, e = .returned (.tuple #[.slice y (Sgn.enc key f p).length cy, .int .i64 0]) ∧ OwnsB w.heap.size w' y cy (Sgn.enc key f p) ∧ Below w.heap.size w w' := by
  have hki : (key : Int) < 2 ^ p.length := by
    have : ((key : Nat) : Int) < ((2 ^ p.length : Nat) : Int) := by exact_mod_cast hk
    simpa using this
  have HV := valid_yes p.length (key : Int) h6 (by omega) hki
  have hwk := wrap_u8z (key : Int)
  have hwn := wrap_u8z (p.length : Int)
  have HL : Hid ([u8z (key : Int), u8z (p.length : Int)] ++ Sgn.ends f 18 ++ Sgn.ends (fun j => p.getD j 0#64) p.length = Sgn.enc key f p) := by show _ = _; rw [u8z_nat, u8z_nat]; rfl
  obtain ⟨n, hn⟩ : ∃ n, p.length = n := ⟨_, rfl⟩
  have HN := Lib.hid hn
  rw [hn] at h6 HV hwn HL ⊢
  obtain ⟨ka, hka⟩ : ∃ a, u8z (key : Int) = a := ⟨_, rfl⟩
  obtain ⟨na, hna⟩ : ∃ a, u8z (n : Int) = a := ⟨_, rfl⟩
  rw [hka] at hwk HL
  rw [hna] at hwn HL
  clear hk hki hn hka hna
  go_enter Try.func28, Try.ntmps28
  go_wp2_with (refine wpList_boxN rfl _ _ rfl rfl ?_; intro W g hB hz; refine Hid.out ?_)
  unfold Hid
  have HZ := Lib.hid hz
  clear hz
  have c0 : W.cell? ⟨w.heap.size, 0, none⟩ = some (.int .i64 (key : Int)) := (g.at 0 (by omega)).1
  have c19 : W.cell? ⟨w.heap.size, 19, none⟩ = some (.slice x n c) := (g.at 19 (by omega)).1
  have gc := g.chain
  have hp1 := hp.later hB
  clear g hp
  go_wp2_with (first | (go_at_call 43; refine (HV _).mono ?_; rintro e w1 ⟨rfl, hw⟩; obtain rfl : W = w1 := hw.symm) | (refine wpList_loadB rfl _ _ rfl (b := w.heap.size) (q := 1) rfl (n := 18) (v := wrdV f) (gc.later (al (Below.refl _ _) _)) arrW_underlying rfl arrW_size ?_))
  clear HV gc
  go_loopw [5, 26] (fun u5 u26 wr => EnRel [ka, na] f 18 W u5 u26 wr) (fun _ u26 _ => 18 - (intOf u26).toNat)
  case atStart =>
    refine ⟨0, some ⟨W.heap.size, 0, none⟩, 2, by omega, rfl, rfl, ?_, al (Below.refl _ _) _⟩
    exact OwnsB.whole W.heap.size W.heap.size W [ka, na] _ rfl (Nat.le_refl _) rfl (by simp)
  case round =>
    clear c0
    obtain ⟨i, y, cy, hi, rfl, rfl, hown, hBr⟩ := hrel
    by_cases hlt : i < 18
    · have hki : decide ((i : Int) < 18) = true := by simp; omega
      obtain ⟨lx, hlx⟩ : ∃ l, Dig.bytes (f i) = l := ⟨_, rfl⟩
      have nx : lx.length = 8 := by rw [← hlx]; exact Dig.bytes_length _
      have cx := bytes_any (f i)
      rw [hlx] at cx
      have hle := Sgn.ends_length f i
      have hE : [ka, na] ++ Sgn.ends f (i + 1) = ([ka, na] ++ Sgn.ends f i) ++ lx := by rw [← hlx, List.append_assoc]; rfl
      obtain ⟨l, hl⟩ : ∃ l, [ka, na] ++ Sgn.ends f i = l := ⟨_, rfl⟩
      have hll : l.length ≤ 200 := by rw [← hl]; simp; omega
      rw [hl] at hown hE ⊢
      have HE := Lib.hid hE
      have HO := Lib.hid hown
      have HX := Lib.hid nx
      have HLL := Lib.hid hll
      clear hlx nx hle hE hl hown hll
      go_wp2_with (refine wpList_indexW rfl _ _ rfl rfl i rfl hlt ?_)
      refine (cx _).mono ?_
      rintro e w2 ⟨b2, rfl, y2, hb2⟩
      clear cx
      have h2 := HO.out.later hb2
      have hB2 := thru hBr hb2
      clear HO hBr hb2
      go_wp2_with (at_builtin; refine wpList_app rfl _ _ rfl (B := W.heap.size) (l := l) h2 rfl (m := lx) rfl y2 (fun h => by cases h) (by have := HX.out; have := HLL.out; omega) HE.out.symm hB2.size ?_; intro x' cap' w3 h3 h4 h5; refine Hid.out ?_)
      unfold Hid
      have hB3 := hB2.trans h4
      have H3 := Lib.hid h3
      clear h2 hB2 h4 h5 h3 y2
      go_wp2_with fail
      refine ⟨⟨i + 1, x', cap', by omega, rfl, by go_num, H3.out, hB3⟩, by simp [intOf]; omega⟩
    · obtain rfl : i = 18 := by omega
      rw [show ((18 : Nat) : Int) = 18 from rfl]
      have d19 := later hBr c19
      obtain ⟨l0, hl0⟩ : ∃ l, [ka, na] ++ Sgn.ends f 18 = l := ⟨_, rfl⟩
      rw [hl0] at hown HL ⊢
      have n0 : l0.length = 146 := by rw [← hl0]; simp [Sgn.ends_length]
      have HN0 := Lib.hid n0
      have HO := Lib.hid hown
      clear hl0 hown c19 n0
      go_wp2_with fail
      clear d19
      go_loopw [5, 37] (fun u5 u37 wr => EnRel l0 (fun j => p.getD j 0#64) n W u5 u37 wr) (fun _ u37 _ => n - (intOf u37).toNat)
      case atStart => exact ⟨0, y, cy, by omega, by rw [show l0 ++ Sgn.ends (fun j => p.getD j 0#64) 0 = l0 from List.append_nil _], rfl, by rw [show l0 ++ Sgn.ends (fun j => p.getD j 0#64) 0 = l0 from List.append_nil _]; exact HO.out, hBr⟩
      case round =>
        clear HO
        obtain ⟨i, y, cy, hi, rfl, rfl, hown, hBs⟩ := hrel
        by_cases hlt : i < n
        · have hki : decide ((i : Int) < (n : Int)) = true := by simp; omega
          obtain ⟨b, o, rfl, hci⟩ := hp1.cell i (by have := HN.out; omega)
          have hci2 := later hBs hci
          obtain ⟨lx, hlx⟩ : ∃ l, Dig.bytes (p.getD i 0#64) = l := ⟨_, rfl⟩
          have nx : lx.length = 8 := by rw [← hlx]; exact Dig.bytes_length _
          have cx := bytes_any (p.getD i 0#64)
          rw [hlx] at cx
          have hle := Sgn.ends_length (fun j => p.getD j 0#64) i
          have hE : l0 ++ Sgn.ends (fun j => p.getD j 0#64) (i + 1) = (l0 ++ Sgn.ends (fun j => p.getD j 0#64) i) ++ lx := by rw [← hlx, List.append_assoc]; rfl
          obtain ⟨l, hl⟩ : ∃ l, l0 ++ Sgn.ends (fun j => p.getD j 0#64) i = l := ⟨_, rfl⟩
          have hll : l.length ≤ 300 := by rw [← hl, List.length_append, HN0.out]; omega
          rw [hl] at hown hE ⊢
          obtain ⟨v, hv⟩ : ∃ v, p.getD i 0#64 = v := ⟨_, rfl⟩
          rw [hv] at cx hci hci2
          obtain ⟨lm, hlm⟩ : ∃ lm, l ++ lx = lm := ⟨_, rfl⟩
          rw [hlm] at hE
          have HM := Lib.hid hE
          have HE := Lib.hid hlm
          have HO := Lib.hid hown
          have HX := Lib.hid nx
          have HLL := Lib.hid hll
          clear hlx nx hle hE hlm hl hown hll hv hci hp1
          go_wp2_with fail
          refine (cx _).mono ?_
          rintro e w2 ⟨b2, rfl, y2, hb2⟩
          clear cx hci2
          have h2 := HO.out.later hb2
          have hB2 := thru hBs hb2
          clear HO hBs hb2
          go_wp2_with (at_builtin; refine wpList_app rfl _ _ rfl (B := W.heap.size) (l := l) h2 rfl (m := lx) rfl y2 (fun h => by cases h) (by have := HX.out; have := HLL.out; omega) HE.out hB2.size ?_; intro x' cap' w3 h3 h4 h5; refine Hid.out ?_)
          unfold Hid
          have hB3 := hB2.trans h4
          have H3 := Lib.hid h3
          clear h2 hB2 h4 h5 h3 y2
          go_wp2_with fail
          go_roundw
          case rel => exact ⟨i + 1, x', cap', by omega, by rw [HM.out], by go_num, by rw [HM.out]; exact H3.out, hB3⟩
          case measure => simp [intOf]; omega
        · obtain rfl : i = n := by omega
          have HH := Lib.hid hown
          clear hown hp1
          go_wp2_with fail
          refine bodyPost_ret (v := .tuple #[.slice y (l0 ++ Sgn.ends (fun j => p.getD j 0#64) i).length cy, .int .i64 0]) (by simp [results, Try.f28, go_sem]) rfl ⟨y, cy, ?_, ?_, ?_⟩
          · rw [HL.out]
          · rw [← HL.out]; exact HH.out.weaken hB.size
          · exact thru hB hBs

end Go.Proofs.Ytjpicnfkmfjnoaa
