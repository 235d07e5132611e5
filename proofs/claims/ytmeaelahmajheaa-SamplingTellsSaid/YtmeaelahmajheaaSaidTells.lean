/- THE STATEMENT SamplingTells. -/
import Derived.Test.YtmeaelahmajheaaRows
import Derived.Test.YtmeaelahmajheaaLift
import Derived.Test.YtmeaelahmajheaaWalksJ
import Derived.WalkKit
import Derived.ProofKit
import Derived.OpenShut
import Derived.ShutString
import Derived.ChangeOld
import Derived.Below
namespace Go.Proofs.Ytmeaelahmajheaa.SamplingTellsDone
open Go.ChangeShapes Go.WideShapes Go.ChangeAt Go.RowKit
open Go.ChangeMaps (open_string shut_string)

theorem own : ownKnob Try.prog.godebug = none := by kernel_rfl
theorem laidOut : laidOutB Try.prog = true := by kernel_rfl

set_option maxRecDepth 100000 in
theorem lifted (os : Os) (started : os.Started) (H : Type) (enc : TypeId × Value → H) :
    ReturnsInHanded {} Try.checked os 3 .any (Rows.samplingTellsSpec.pre6 enc Try.prog Try.f3 Rows.samplingTellsRow.domain false) (Rows.samplingTellsSpec.post enc Try.prog Try.f3 false true false false) := by
  refine returnsInHanded_of_change (C := Try.checked) own started (by kernel_rfl) Try.func3
    (ChangeSpec.witness6 (enc := enc) (C := Try.checked) false ⟨#[], #[.agg #[.string ⟨#[]⟩, .int .u8 0, .bool false, .int .i64 0, .int .i64 0, .int .i64 0], .agg #[.slice none 0 0, .int .i64 0, .bool false], .int .i64 0, .slice none 0 0], []⟩ 8 (by kernel_rfl) (by kernel_rfl) (by kernel_rfl) (by kernel_rfl)) ?_
  intro W base args ds gs before hval0 hW hcnd _
  have hval : ∀ (j : Nat) t v, Try.f3.params[j]? = some t → args[j]? = some v → Value.okWide Try.prog W .any base t v := hval0
  have hW' := hW
  obtain ⟨p, q, hA0, hV, rfl, hfz, hnd⟩ := hW
  have hA : DataW.TrodAll enc Try.prog W 0 (fun _ => true) true Try.f3.params.toList args.toList ds p := hA0
  rw [Try.params3] at hA hval
  obtain ⟨v0, vs0, d0, ds0, p0, q0, hargs, rfl, rfl, k0, r0⟩ := trodAll_cons hA
  obtain ⟨v1, vs1, d1, ds1, p1, q1, rfl, rfl, rfl, k1, r1⟩ := trodAll_cons r0
  obtain ⟨v2, vs2, d2, ds2, p2, q2, rfl, rfl, rfl, k2, r2⟩ := trodAll_cons r1
  obtain ⟨v3, vs3, d3, ds3, p3, q3, rfl, rfl, rfl, k3, r3⟩ := trodAll_cons r2
  obtain ⟨rfl, rfl, rfl⟩ := trodAll_nil r3
  obtain rfl : args = #[v0, v1, v2, v3] := by cases args; simp_all
  obtain ⟨rfl, rfl⟩ := trodVars_none hV
  have lt0 : ∀ x ∈ p0, x.block < W.heap.size := by obtain ⟨m, hm⟩ := k0; exact DataW.trod_lt m _ _ _ hm
  obtain ⟨u0_0, u0_1, u0_2, u0_3, u0_4, u0_5, _, _, _, _, _, _, _, rfl, t0_0, t0_1, t0_2, t0_3, t0_4, t0_5⟩ := agg6 Try.underlying23 (by kernel_rfl) (by kernel_rfl) (hval 0 _ v0 rfl rfl) k0
  obtain ⟨n0_0, rfl, w0_0⟩ := f_string (by kernel_rfl) t0_0
  obtain ⟨n0_1, rfl, w0_1⟩ := f_int (k := .u8) (by kernel_rfl) t0_1
  have b0_1 := of_wf_u8 w0_1
  obtain ⟨n0_2, rfl⟩ := f_bool (by kernel_rfl) t0_2
  obtain ⟨n0_3, rfl, w0_3⟩ := f_int (k := .i64) (by kernel_rfl) t0_3
  have b0_3 := of_wf_i64 w0_3
  obtain ⟨n0_4, rfl, w0_4⟩ := f_int (k := .i64) (by kernel_rfl) t0_4
  have b0_4 := of_wf_i64 w0_4
  obtain ⟨n0_5, rfl, w0_5⟩ := f_int (k := .i64) (by kernel_rfl) t0_5
  have b0_5 := of_wf_i64 w0_5
  have lt1 : ∀ x ∈ p1, x.block < W.heap.size := by obtain ⟨m, hm⟩ := k1; exact DataW.trod_lt m _ _ _ hm
  obtain ⟨u1_0, u1_1, u1_2, _, _, _, _, rfl, t1_0, t1_1, t1_2⟩ := agg3 Try.underlying26 (by kernel_rfl) (by kernel_rfl) (hval 1 _ v1 rfl rfl) k1
  obtain ⟨x1_0, l1_0, c1_0, rfl, y1_0, z1_0, m1_0⟩ := f_bytes (e := 5) (by kernel_rfl) Try.underlying5 (by kernel_rfl) t1_0
  obtain ⟨n1_1, rfl, w1_1⟩ := f_int (k := .i64) (by kernel_rfl) t1_1
  have b1_1 := of_wf_i64 w1_1
  obtain ⟨n1_2, rfl⟩ := f_bool (by kernel_rfl) t1_2
  have lt2 : ∀ x ∈ p2, x.block < W.heap.size := by obtain ⟨m, hm⟩ := k2; exact DataW.trod_lt m _ _ _ hm
  obtain ⟨n2, rfl, -, -, w2⟩ := open_int (k := .i64) (by kernel_rfl) (hval 2 _ v2 rfl rfl) k2
  have b2 := of_wf_i64 w2
  have lt3 : ∀ x ∈ p3, x.block < W.heap.size := by obtain ⟨m, hm⟩ := k3; exact DataW.trod_lt m _ _ _ hm
  obtain ⟨x3, l3, c3, rfl, y3, z3, m3⟩ := v_bytes (e := 5) (by kernel_rfl) Try.underlying5 (by kernel_rfl) (hval 3 _ v3 rfl rfl) k3
  clear hA0 hval0
  refine (tell_any n0_0 n0_1 n0_2 n0_3 n0_4 n0_5 x1_0 l1_0 c1_0 n1_1 n1_2 n2 x3 l3 c3 W y1_0 y3).mono fun e W' ⟨he, bel⟩ => ?_
  subst he
  exact ⟨_, rfl, _, _, _, [], _, [], hW', trodAll_mk1 (shut_bool (by kernel_rfl) _), (trodAll_cons_mk (Below.trod laidOut (by kernel_rfl) (of_decide_eq_true (by kernel_rfl)) k0 bel lt0) (trodAll_cons_mk (Below.trod laidOut (by kernel_rfl) (of_decide_eq_true (by kernel_rfl)) k1 bel lt1) (trodAll_cons_mk (Below.trod laidOut (by kernel_rfl) (of_decide_eq_true (by kernel_rfl)) k2 bel lt2) (trodAll_cons_mk (Below.trod laidOut (by kernel_rfl) (of_decide_eq_true (by kernel_rfl)) k3 bel lt3) trodAll_mk0)))), rfl, bel.frame _, fun h => by cases h⟩

theorem over : Rows.samplingTellsRow.holds Try.pinned (OpenSpec.ofChange Rows.samplingTellsSpec) :=
  OpenClaim.holds_of_wide 3 Try.f3 rfl rfl rfl rfl rfl rfl rfl ⟨rfl, rfl, rfl, rfl, rfl⟩ rfl rfl rfl rfl rfl (by kernel_rfl) Try.func3 (by kernel_rfl)
    (of_decide_eq_true (by kernel_rfl)) (by unfold Func.isWrapper; first | (rw [if_pos (by decide +kernel)]; kernel_rfl) | (rw [if_neg (by decide +kernel)]; exact ⟨rfl, rfl⟩))
    (fun os started H enc _ => lifted os started H enc)

/-- THE STATEMENT -/
theorem proved : Rows.SamplingTellsSaid := over

end Go.Proofs.Ytmeaelahmajheaa.SamplingTellsDone
