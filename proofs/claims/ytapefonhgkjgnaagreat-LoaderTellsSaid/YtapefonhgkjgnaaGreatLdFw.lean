/- WALK of the law's guard Few. -/
import Derived.Test.YtapefonhgkjgnaaGreatLdF
import Derived.Test.YtapefonhgkjgnaaGreatLdD
set_option maxRecDepth 20000
namespace Go.Proofs.YtapefonhgkjgnaaGreat
open Go.RowKit

/-- A store and software are few. -/
def fewS (s : Ld.Sw) : Bool := decide (s.name.length ≤ 60) && (decide (s.img.length ≤ 600) && decide (s.path.length ≤ 10))
def fewB (rs : List Rw) (s : Ld.Sw) : Bool := (!rs.any fun r => decide (100 < r.l.length)) && (decide (rs.length ≤ 40) && fewS s)
theorem fewS_iff (s : Ld.Sw) : fewS s = true ↔ s.name.length ≤ 60 ∧ s.img.length ≤ 600 ∧ s.path.length ≤ 10 := by
  unfold fewS; simp only [Bool.and_eq_true, decide_eq_true_eq]
theorem fewB_iff (rs : List Rw) (s : Ld.Sw) : fewB rs s = true ↔ (∀ r, r ∈ rs → r.l.length ≤ 100) ∧ rs.length ≤ 40 ∧ s.name.length ≤ 60 ∧ s.img.length ≤ 600 ∧ s.path.length ≤ 10 := by
  unfold fewB
  rw [Bool.and_eq_true, Bool.and_eq_true, fewS_iff, decide_eq_true_eq, Bool.not_eq_true', List.any_eq_false]
  simp only [decide_eq_true_eq, Nat.not_lt]
set_option maxHeartbeats 1000000 in
theorem few_any (x : Option Addr) (rs : List Rw) (c : Nat) (s : Ld.Sw) (a : SwA) (w : World) (hs : Rws w x rs) (hn : rs.length ≤ 9223372036854775807) :
    Calls Tryz.prog 5 #[.agg #[.slice x rs.length c], aggN 23 (softV s a)] w fun e w' => e = .returned (.bool (fewB rs s)) ∧ Below w.heap.size w w' := by
  have HQ : Hid ((∀ i, i < rs.length → ¬ 100 < (rs.getD i rw0).l.length) → fewB rs s = (decide (rs.length ≤ 40) && fewS s)) := fun h => by
    unfold fewB
    have : (rs.any fun r => decide (100 < r.l.length)) = false := any_none _ rs rw0 (fun i hi => by simpa using h i hi)
    rw [this]; rfl
  have HB : Hid (∀ i, i < rs.length → 100 < (rs.getD i rw0).l.length → fewB rs s = false) := fun i hi h => by
    unfold fewB
    have : (rs.any fun r => decide (100 < r.l.length)) = true := any_of_bad _ rs i rw0 hi (decide_eq_true h)
    rw [this]; rfl
  obtain ⟨q, hq⟩ : ∃ q, fewB rs s = q := ⟨_, rfl⟩
  rw [hq] at HQ HB ⊢
  clear hq
  have hqn : (⟨s.name.toArray⟩ : ByteArray).size = s.name.length := by show s.name.toArray.size = _; rw [List.size_toArray]
  obtain ⟨qn, hqe⟩ : ∃ q : ByteArray, (⟨s.name.toArray⟩ : ByteArray) = q := ⟨_, rfl⟩
  rw [hqe] at hqn
  obtain ⟨kn, hkn⟩ : ∃ n, s.name.length = n := ⟨_, rfl⟩
  obtain ⟨ki, hki⟩ : ∃ n, s.img.length = n := ⟨_, rfl⟩
  obtain ⟨kp, hkp⟩ : ∃ n, s.path.length = n := ⟨_, rfl⟩
  obtain ⟨ff, hff⟩ : ∃ b, fewS s = b := ⟨_, rfl⟩
  have HFF : Hid ((kn ≤ 60 → ki ≤ 600 → kp ≤ 10 → ff = true) ∧ (ff = true → kn ≤ 60 ∧ ki ≤ 600 ∧ kp ≤ 10)) := by
    rw [← hff, ← hkn, ← hki, ← hkp]
    exact ⟨fun a b c => (fewS_iff s).2 ⟨a, b, c⟩, (fewS_iff s).1⟩
  rw [hff] at HQ
  rw [hkn] at hqn
  clear hff
  go_enter Tryz.func5, Tryz.ntmps5
  go_wp2_with (refine wpList_boxN rfl _ _ rfl rfl ?_; intro W g hB hz; refine Hid.out ?_)
  unfold Hid
  have h2 := al (Below.refl _ w) (.cells #[.slice x rs.length c] 33)
  have d2 : (w.alloc (.cells #[.slice x rs.length c] 33)).cell? ⟨w.heap.size, 0, none⟩ = some (.slice x rs.length c) := cell_new w _ _ _ 0
  obtain ⟨w1, hw1⟩ : ∃ W, w.alloc (.cells #[.slice x rs.length c] 33) = W := ⟨_, rfl⟩
  have hsz : w1.heap.size = w.heap.size + 1 := by rw [← hw1]; simp
  rw [hw1] at g hB hz h2 d2
  rw [hsz] at g
  obtain ⟨b3, e3⟩ : ∃ b, w.heap.size + 1 = b := ⟨_, rfl⟩
  rw [e3] at g ⊢
  obtain ⟨b2, e2⟩ : ∃ b, w.heap.size = b := ⟨_, rfl⟩
  replace d2 := later hB d2
  have hs2 := (hs.later h2).later hB
  have hBB := thru h2 hB
  rw [e2] at d2 ⊢
  have c0 := g.name
  have c2 := g.img
  have c22 : W.cell? ⟨b3, 22, none⟩ = some (.slice a.xp s.path.length a.cp) := (g.at 22 (by omega)).1
  rw [hqe] at c0
  rw [hki] at c2
  rw [hkp] at c22
  clear hz h2 hw1 e3 hsz hB hs hqe hki hkp hkn g
  have HE2 := Lib.hid e2
  have HBB := Lib.hid hBB
  clear e2 hBB
  go_wp2_with fail
  go_loop [10] (fun u10 => ∃ j : Nat, j ≤ rs.length ∧ u10 = .int .i64 (j : Int) ∧ ∀ i, i < j → ¬ 100 < (rs.getD i rw0).l.length) (fun u10 => rs.length - (intOf u10).toNat)
  case atStart => exact ⟨0, by omega, rfl, fun i hi => by omega⟩
  case round =>
    obtain ⟨j, hj, rfl, hgood⟩ := hrel
    have HG := Lib.hid hgood
    clear hgood
    by_cases hlt : j < rs.length
    · have d1 : decide ((j : Int) < (rs.length : Int)) = true := by simp; omega
      obtain ⟨b0, o0, rfl, hcj, hrj⟩ := hs2.at j hlt
      have hcj' : W.cell? ⟨b0, o0 + j, none⟩ = some (.slice (rs.getD j rw0).x (rs.getD j rw0).l.length (rs.getD j rw0).c) := hcj
      obtain ⟨nj, hnj⟩ : ∃ q, (rs.getD j rw0).l.length = q := ⟨_, rfl⟩
      have HN := Lib.hid hnj
      rw [hnj] at hcj'
      clear hcj hrj hnj
      by_cases hq : 100 < nj
      · have d3 : decide ((nj : Int) > 100) = true := by simp; omega
        have d4 : decide ((100 : Int) < (nj : Int)) = true := by simp; omega
        have d5 : decide (100 < nj) = true := by simp; omega
        obtain rfl : q = false := HB.out j hlt (by rw [HN.out]; exact hq)
        clear HFF HQ HB HG HN
        go_wp2_with fail
        go_ret
        exact ⟨rfl, by first | exact HBB.out | (rw [← HE2.out]; exact HBB.out)⟩
      · have d3 : decide ((nj : Int) > 100) = false := by simp; omega
        have d4 : decide ((100 : Int) < (nj : Int)) = false := by simp; omega
        have d5 : decide (100 < nj) = false := by simp; omega
        go_wp2_with fail
        exact ⟨⟨j + 1, by omega, by go_num, fun i hi => by
          by_cases h : i = j
          · subst h; rw [HN.out]; exact hq
          · exact HG.out i (by omega)⟩, by simp [intOf]; omega⟩
    · obtain rfl : j = rs.length := by omega
      have hQ := HQ.out HG.out
      have HQ2 := Lib.hid hQ
      have dd : decide ((rs.length : Int) < (rs.length : Int)) = false := by simp
      clear hQ HQ HB HG hs2 hj
      by_cases h1 : rs.length ≤ 40
      · have a1 : decide ((rs.length : Int) ≤ 40) = true := by simp; omega
        have a2 : decide (rs.length ≤ 40) = true := by simp; omega
        by_cases h2 : kn ≤ 60
        · have a3 : decide ((kn : Int) ≤ 60) = true := by simp; omega
          have a4 : decide (kn ≤ 60) = true := by simp; omega
          by_cases h3 : ki ≤ 600
          · have a5 : decide ((ki : Int) ≤ 600) = true := by simp; omega
            have a6 : decide (ki ≤ 600) = true := by simp; omega
            by_cases h4 : kp ≤ 10
            · have a7 : decide ((kp : Int) ≤ 10) = true := by simp; omega
              have a8 : decide (kp ≤ 10) = true := by simp; omega
              obtain rfl : ff = true := HFF.out.1 h2 h3 h4
              obtain rfl : q = true := by rw [HQ2.out, a2]; rfl
              clear HFF HQ2
              go_wp2_with fail
              go_ret
              exact ⟨by simp , by first | exact HBB.out | (rw [← HE2.out]; exact HBB.out)⟩
            · have a7 : decide ((kp : Int) ≤ 10) = false := by simp; omega
              have a8 : decide (kp ≤ 10) = false := by simp; omega
              obtain rfl : ff = false := by
                cases ff
                · rfl
                · have := HFF.out.2 rfl; omega
              obtain rfl : q = false := by rw [HQ2.out, a2]; rfl
              clear HFF HQ2
              go_wp2_with fail
              go_ret
              exact ⟨rfl, by first | exact HBB.out | (rw [← HE2.out]; exact HBB.out)⟩
          · have a5 : decide ((ki : Int) ≤ 600) = false := by simp; omega
            have a6 : decide (ki ≤ 600) = false := by simp; omega
            obtain rfl : ff = false := by
              cases ff
              · rfl
              · have := HFF.out.2 rfl; omega
            obtain rfl : q = false := by rw [HQ2.out, a2]; rfl
            clear HFF HQ2
            go_wp2_with fail
            go_ret
            exact ⟨rfl, by first | exact HBB.out | (rw [← HE2.out]; exact HBB.out)⟩
        · have a3 : decide ((kn : Int) ≤ 60) = false := by simp; omega
          have a4 : decide (kn ≤ 60) = false := by simp; omega
          obtain rfl : ff = false := by
            cases ff
            · rfl
            · have := HFF.out.2 rfl; omega
          obtain rfl : q = false := by rw [HQ2.out, a2]; rfl
          clear HFF HQ2
          go_wp2_with fail
          go_ret
          exact ⟨rfl, by first | exact HBB.out | (rw [← HE2.out]; exact HBB.out)⟩
      · have a1 : decide ((rs.length : Int) ≤ 40) = false := by simp; omega
        have a2 : decide (rs.length ≤ 40) = false := by simp; omega
        obtain rfl : q = false := by rw [HQ2.out, a2]; rfl
        clear HFF HQ2
        go_wp2_with fail
        go_ret
        exact ⟨rfl, by first | exact HBB.out | (rw [← HE2.out]; exact HBB.out)⟩
end Go.Proofs.YtapefonhgkjgnaaGreat
