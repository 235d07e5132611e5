/- WALKS of the laws of the block layer: reads. -/
import Derived.Test.YtgibfagnfhgelaaBlkM
namespace Go.Proofs.Ytgibfagnfhgelaa
open Go.RowKit

set_option maxHeartbeats 2000000 in
theorem reads_any (x : Option Addr) (rs : List Rw) (c : Nat) (y : Option Addr) (rt : List Rw) (cy : Nat) (i : Int) (w : World) (hs : Rws w x rs) (ht : Rws w y rt) (hn : rs.length ≤ 1000) (hm : rt.length ≤ 1000) : Calls Try.prog 26 #[.agg #[.slice x rs.length c], .agg #[.slice y rt.length cy], .int .i64 i] w fun e w' => e = .returned (.bool (rdC (rs.map (·.l)) i == rdC (rt.map (·.l)) i && rdM (rs.map (·.l)) i == rdM (rt.map (·.l)) i)) ∧ Below w.heap.size w w' := by
  have hB := Below.refl w.heap.size w
  obtain ⟨c1, hc1⟩ : ∃ c, rdC (rs.map (·.l)) i = c := ⟨_, rfl⟩
  obtain ⟨c2, hc2⟩ : ∃ c, rdC (rt.map (·.l)) i = c := ⟨_, rfl⟩
  obtain ⟨m1, hm1⟩ : ∃ c, rdM (rs.map (·.l)) i = c := ⟨_, rfl⟩
  obtain ⟨m2, hm2⟩ : ∃ c, rdM (rt.map (·.l)) i = c := ⟨_, rfl⟩
  have hr1 := fun W h => read_any x rs c i W h hn
  have hr2 := fun W h => read_any y rt cy i W h hm
  unfold ReadOf at hr1 hr2
  rw [hc1, hm1] at hr1
  rw [hc2, hm2] at hr2
  rw [hc1, hc2, hm1, hm2]
  have hse := str_eq m1 m2
  obtain ⟨q, hq⟩ : ∃ q, (c1 == c2) = q := ⟨_, rfl⟩
  rw [hq]
  have HQ := Lib.hid hq
  clear hc1 hc2 hm1 hm2 hq
  go_enter Try.func26, Try.ntmps26
  go_wp2_with fail
  refine (hr1 _ (hs.later (al (al hB _) _))).mono ?_
  rintro e w1 ⟨x1, cx1, rfl, ho1, hb⟩
  have g1 := later (a := ⟨w.heap.size + 1, 0, none⟩) (v := .slice y rt.length cy) hb (by go_simp)
  have hB1 := thru (al (al hB _) _) hb
  have b1 := ho1.bts
  clear hb ho1
  go_wp2_with fail
  refine (hr2 _ (ht.later hB1)).mono ?_
  rintro e w2 ⟨x2, cx2, rfl, ho2, hb⟩
  have hB2 := thru hB1 hb
  have b2 := ho2.bts
  replace b1 := b1.later hb
  clear hb ho2 g1
  have e1 := run_conv (P := Try.prog) (src := 25) (e := 5) (dst := 9) Try.underlying25 Try.underlying5 Try.underlying9 b1 cx1
  have e2 := run_conv (P := Try.prog) (src := 25) (e := 5) (dst := 9) Try.underlying25 Try.underlying5 Try.underlying9 b2 cx2
  cases q
  · have q1 := HQ.out
    go_wp2_with fail
    go_ret
    exact ⟨rfl, hB2⟩
  · have q1 := HQ.out
    go_wp2_with fail
    go_ret
    exact ⟨rfl, hB2⟩

end Go.Proofs.Ytgibfagnfhgelaa
