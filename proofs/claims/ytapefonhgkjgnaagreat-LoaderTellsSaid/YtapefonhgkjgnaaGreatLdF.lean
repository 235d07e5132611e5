/- WALKS of the loader: software as a value; Valid, content, Digest, Pack, Genuine. -/
import Derived.Test.YtapefonhgkjgnaaGreatLdE
set_option maxRecDepth 20000
namespace Go.Proofs.YtapefonhgkjgnaaGreat
open Go.RowKit

/-- Where software's slices lie. -/
structure SwA where
  xi : Option Addr
  ci : Nat
  xp : Option Addr
  cp : Nat
def softV (s : Ld.Sw) (a : SwA) (j : Nat) : Value := if j = 0 then .string ⟨s.name.toArray⟩ else if j = 1 then .int .i64 s.ver else if j = 2 then .slice a.xi s.img.length a.ci else sigV s.key s.ch a.xp s.path.length a.cp (j - 3)
theorem soft_one (s : Ld.Sw) (a : SwA) (j : Nat) : (softV s a j).oneCell' = true := by
  unfold softV
  split
  · rfl
  · split
    · rfl
    · split
      · rfl
      · exact sig_one _ _ _ _ _ _
def SwIn (w : World) (s : Ld.Sw) (a : SwA) : Prop := Bts w a.xi s.img ∧ (a.xi = none → a.ci = 0) ∧ Wts w a.xp s.path
theorem SwIn.later {w w' : World} {s : Ld.Sw} {a : SwA} (h : SwIn w s a) (hb : Below w.heap.size w w') : SwIn w' s a := ⟨h.1.later hb, h.2.1, h.2.2.later hb⟩
def zSw : Ld.Sw := ⟨[], 0, [], 0, fun _ => 0#64, []⟩
def zA : SwA := ⟨none, 0, none, 0⟩
theorem zSw_in (w : World) : SwIn w zSw zA := ⟨.inl rfl, fun _ => rfl, .inl rfl⟩
theorem soft_zero : (Tryz.prog.info? 29).map (·.zero) = some (some (aggN 23 (softV zSw zA))) := by kernel_rfl
theorem soft_struct : (match Tryz.prog.underlying 29 with | some (.struct _) => true | _ => false) = true := by kernel_rfl
theorem soft_size : (Tryz.prog.info? 29).map (·.size) = some 23 := by kernel_rfl
theorem run_loadSw {W : World} {b o : Nat} {v : Nat → Value} (h : Blk W b o 23 v) : (loadVar 29 ⟨b, o, none⟩).run Tryz.prog W = .ok (aggN 23 v) W := by
  have hs := soft_struct
  cases hq : Tryz.prog.underlying 29 with
  | none => rw [hq] at hs; cases hs
  | some d =>
    rw [hq] at hs
    exact run_loadN h hq (by cases d <;> first | rfl | (simp at hs)) soft_size
theorem run_loadSg {W : World} {b o : Nat} {v : Nat → Value} (h : Blk W b o 20 v) : (loadVar 27 ⟨b, o, none⟩).run Tryz.prog W = .ok (aggN 20 v) W := by
  have hs := sig_struct
  cases hq : Tryz.prog.underlying 27 with
  | none => rw [hq] at hs; cases hs
  | some d =>
    rw [hq] at hs
    exact run_loadN h hq (by cases d <;> first | rfl | (simp at hs)) sig_size
theorem Blk.sig {W : World} {b : Nat} {s : Ld.Sw} {a : SwA} (h : Blk W b 0 23 (softV s a)) : Blk W b 3 20 (sigV s.key s.ch a.xp s.path.length a.cp) := by
  have h1 := h.sub 3 20 (by omega)
  rw [Nat.zero_add] at h1
  refine h1.congr fun j hj => ?_
  unfold softV
  rw [if_neg (by omega), if_neg (by omega), if_neg (by omega), Nat.add_sub_cancel_left]
theorem Blk.name {W : World} {b : Nat} {s : Ld.Sw} {a : SwA} (h : Blk W b 0 23 (softV s a)) : W.cell? ⟨b, 0, none⟩ = some (.string ⟨s.name.toArray⟩) := (h.at 0 (by omega)).1
theorem Blk.ver {W : World} {b : Nat} {s : Ld.Sw} {a : SwA} (h : Blk W b 0 23 (softV s a)) : W.cell? ⟨b, 1, none⟩ = some (.int .i64 s.ver) := (h.at 1 (by omega)).1
theorem Blk.img {W : World} {b : Nat} {s : Ld.Sw} {a : SwA} (h : Blk W b 0 23 (softV s a)) : W.cell? ⟨b, 2, none⟩ = some (.slice a.xi s.img.length a.ci) := (h.at 2 (by omega)).1

def sgC (s : Ld.Sw) : Int := if vldG (s.path.length : Int) s.key = true then 0 else 2
def sgB (s : Ld.Sw) : List UInt8 := if vldG (s.path.length : Int) s.key = true then Sgn.enc s.key.toNat s.ch s.path else []
theorem senc_any (s : Ld.Sw) (a : SwA) (w : World) (hi : SwIn w s a) : Calls Tryz.prog 29 #[aggN 20 (sigV s.key s.ch a.xp s.path.length a.cp)] w fun e w' => ∃ y cy, e = .returned (.tuple #[.slice y (sgB s).length cy, .int .i64 (sgC s)]) ∧ OwnsB w.heap.size w' y cy (sgB s) ∧ Below w.heap.size w w' := by
  unfold sgB sgC
  by_cases hv : vldG (s.path.length : Int) s.key = true
  · rw [if_pos hv, if_pos hv]
    obtain ⟨h6, k0, k1⟩ := (Ld.vldG_iff _ _).1 hv
    have hk : s.key = (s.key.toNat : Int) := (Int.toNat_of_nonneg k0).symm
    have hkn : s.key.toNat < 2 ^ s.path.length := by
      have : ((s.key.toNat : Nat) : Int) < ((2 ^ s.path.length : Nat) : Int) := by rw [← hk]; simpa using k1
      exact_mod_cast this
    have h := encode_ok s.key.toNat s.ch s.path a.xp a.cp w hi.2.2 h6 hkn
    rw [← hk] at h
    exact h
  · rw [if_neg hv, if_neg hv]
    refine (encode_bad s.key s.ch a.xp s.path.length a.cp w (by simpa using hv)).mono ?_
    rintro e w' ⟨rfl, hb⟩
    exact ⟨none, 0, rfl, OwnsB.nil _ _, hb⟩

set_option maxHeartbeats 1000000 in
theorem vsoft_any (s : Ld.Sw) (a : SwA) (w : World) (hi : SwIn w s a) : Calls Tryz.prog 12 #[aggN 23 (softV s a)] w fun e w' => e = .returned (.bool s.vld) ∧ Below w.heap.size w w' := by
  have hq : (⟨s.name.toArray⟩ : ByteArray).size = s.name.length := by show s.name.toArray.size = _; rw [List.size_toArray]
  obtain ⟨q, hqe⟩ : ∃ q : ByteArray, (⟨s.name.toArray⟩ : ByteArray) = q := ⟨_, rfl⟩
  have hvi := Ld.Sw.vld_iff s
  rw [hqe] at hq
  have hsc : sgC s = if vldG (s.path.length : Int) s.key = true then 0 else 2 := rfl
  have HV : Hid (s.vld = (decide (1 ≤ s.name.length) && (decide (s.name.length ≤ 24) && (decide (0 ≤ s.ver) && (decide (s.ver ≤ 1048576) && (decide (s.img.length ≤ 400) && decide (sgC s = 0))))))) := by
    show _ = _
    rw [hsc]
    unfold Ld.Sw.vld
    cases vldG (s.path.length : Int) s.key <;> rfl
  clear hsc hvi
  have HE := senc_any s a
  obtain ⟨k, hk⟩ : ∃ k, sgC s = k := ⟨_, rfl⟩
  rw [hk] at HE HV
  obtain ⟨l, hl⟩ : ∃ l, sgB s = l := ⟨_, rfl⟩
  rw [hl] at HE
  obtain ⟨v, hv⟩ : ∃ v, s.vld = v := ⟨_, rfl⟩
  rw [hv] at HV ⊢
  clear hk hl hv
  go_enter Tryz.func12, Tryz.ntmps12
  go_wp2_with (refine wpList_boxN rfl _ _ rfl rfl ?_; intro W g hB hz; refine Hid.out ?_)
  unfold Hid
  have c0 := g.name
  have c1 := g.ver
  have c2 := g.img
  have g3 := g.sig
  rw [hqe] at c0
  have hi1 := hi.later hB
  clear g hi hqe
  obtain ⟨m, hm⟩ : ∃ m, s.name.length = m := ⟨_, rfl⟩
  obtain ⟨n, hn⟩ : ∃ n, s.img.length = n := ⟨_, rfl⟩
  obtain ⟨r, hr⟩ : ∃ r, s.ver = r := ⟨_, rfl⟩
  rw [hm] at hq HV
  rw [hn] at c2 HV
  rw [hr] at c1 HV
  clear hm hn hr
  have HZ := Lib.hid hz
  clear hz
  go_wp2_with (refine wpList_loadN rfl _ _ rfl (b := w.heap.size) (q := 3) rfl (run_loadSg g3) ?_)
  refine (HE _ hi1).mono ?_
  rintro e w1 ⟨y, cy, rfl, _, hb1⟩
  replace c0 := later hb1 c0
  replace c1 := later hb1 c1
  replace c2 := later hb1 c2
  replace hB := thru hB hb1
  clear g3 hi1 HE hb1
  by_cases h0 : ¬ (1 ≤ m)
  · have n0_0 : decide (1 ≤ (m : Int)) = false := by simp; omega
    have n0_1 : decide ((m : Int) ≥ 1) = false := by simp; omega
    have n0_2 : decide (1 ≤ m) = false := by simp; omega
    obtain rfl : v = false := by rw [HV.out]; simp [h0]
    clear HV
    go_wp2_with fail
    go_ret
    exact ⟨rfl, hB⟩
  replace h0 := Decidable.not_not.mp h0
  have p0_0 : decide (1 ≤ (m : Int)) = true := by simp; omega
  have p0_1 : decide ((m : Int) ≥ 1) = true := by simp; omega
  have p0_2 : decide (1 ≤ m) = true := by simp; omega
  by_cases h1 : ¬ (m ≤ 24)
  · have n1_0 : decide ((m : Int) ≤ 24) = false := by simp; omega
    have n1_1 : decide (m ≤ 24) = false := by simp; omega
    obtain rfl : v = false := by rw [HV.out]; simp [h0, h1]
    clear HV
    go_wp2_with fail
    go_ret
    exact ⟨rfl, hB⟩
  replace h1 := Decidable.not_not.mp h1
  have p1_0 : decide ((m : Int) ≤ 24) = true := by simp; omega
  have p1_1 : decide (m ≤ 24) = true := by simp; omega
  by_cases h2 : ¬ (0 ≤ r)
  · have n2_0 : decide (0 ≤ r) = false := by simp; omega
    obtain rfl : v = false := by rw [HV.out]; simp [h0, h1, h2]
    clear HV
    go_wp2_with fail
    go_ret
    exact ⟨rfl, hB⟩
  replace h2 := Decidable.not_not.mp h2
  have p2_0 : decide (0 ≤ r) = true := by simp; omega
  by_cases h3 : ¬ (r ≤ 1048576)
  · have n3_0 : decide (r ≤ 1048576) = false := by simp; omega
    obtain rfl : v = false := by rw [HV.out]; simp [h0, h1, h2, h3]
    clear HV
    go_wp2_with fail
    go_ret
    exact ⟨rfl, hB⟩
  replace h3 := Decidable.not_not.mp h3
  have p3_0 : decide (r ≤ 1048576) = true := by simp; omega
  by_cases h4 : ¬ (n ≤ 400)
  · have n4_0 : decide ((n : Int) ≤ 400) = false := by simp; omega
    have n4_1 : decide (n ≤ 400) = false := by simp; omega
    obtain rfl : v = false := by rw [HV.out]; simp [h0, h1, h2, h3, h4]
    clear HV
    go_wp2_with fail
    go_ret
    exact ⟨rfl, hB⟩
  replace h4 := Decidable.not_not.mp h4
  have p4_0 : decide ((n : Int) ≤ 400) = true := by simp; omega
  have p4_1 : decide (n ≤ 400) = true := by simp; omega
  by_cases h5 : ¬ (k = 0)
  · have n5_0 : decide (k = 0) = false := by simp; omega
    have n5_1 : (k == 0) = false := by simp; omega
    obtain rfl : v = false := by rw [HV.out]; simp [h0, h1, h2, h3, h4, h5]
    clear HV
    go_wp2_with fail
    go_ret
    exact ⟨rfl, hB⟩
  replace h5 := Decidable.not_not.mp h5
  have p5_0 : decide (k = 0) = true := by simp; omega
  have p5_1 : (k == 0) = true := by simp; omega
  obtain rfl : v = true := by rw [HV.out]; simp [h0, h1, h2, h3, h4, h5]
  clear HV
  go_wp2_with fail
  go_ret
  exact ⟨rfl, hB⟩

end Go.Proofs.YtapefonhgkjgnaaGreat
